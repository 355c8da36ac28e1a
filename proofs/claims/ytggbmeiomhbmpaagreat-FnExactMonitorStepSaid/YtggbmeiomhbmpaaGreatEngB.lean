/- The engine, text B. -/
import Derived.Test.YtggbmeiomhbmpaaGreatEngA
import Derived.Orders
set_option linter.unusedSimpArgs false
set_option linter.unusedVariables false
namespace Go.Cap
open Go
structure Kept (X : List Nat) (w w' : World) : Prop where
  os : w'.os = w.os
  tape : w'.tape = w.tape
  output : w'.output = w.output
  size : w.heap.size ≤ w'.heap.size
  block : ∀ g, g < w.heap.size → g ∉ X → w'.heap[g]? = w.heap[g]?
structure Cx where
  P : Program
  w0 : World
  X : List Nat
  M0 : Mem
  nt : Nat
  m : Nat
  i0 : Nat → Option BI
structure Wr (c : Cx) (M : Mem) (ι : Nat → Option BI) (hp : List (Nat × Blk)) (nx : Nat) (gs : List Nat) (w : World) : Prop where
  msub : MSub M w
  m0 : c.M0.le M
  mnew : ∀ g x, M g = some x → c.M0 g = some x ∨ c.w0.heap.size ≤ g ∨ g ∈ c.X
  heap : Hr M ι hp w
  inj : ∀ b b' bi bi' g, hget hp b ≠ none → hget hp b' ≠ none → ι b = some bi → ι b' = some bi' → bi.g = some g → bi'.g = some g → b = b'
  own : ∀ b bi g, hget hp b ≠ none → ι b = some bi → bi.g = some g → c.w0.heap.size ≤ g ∨ g ∈ c.X
  kept : Kept c.X c.w0 w
  fresh : ∀ b, nx ≤ b → ι b = none
  mle : c.m ≤ nx
  anc : ∀ b x, b < c.m → ι b = some x → c.i0 b = some x
  gsn : gs.Nodup
  gsm : ∀ g, g ∈ gs → M g ≠ none ∧ (c.w0.heap.size ≤ g ∨ g ∈ c.X)
structure Sr (c : Cx) (M : Mem) (ι : Nat → Option BI) (s : St) (a : Act) (w : World) : Prop where
  wr : Wr c M ι s.hp s.nx s.gs w
  slots : Slots M ι s.sl a.tmps
  nt : a.tmps.size = c.nt
  df : a.defers = []
def put (s : St) (d : Nat) (v : AV) : St := { s with sl := (d, v) :: s.sl }
@[go_sem] theorem put_mk (sl : List (Nat × AV)) (hp : List (Nat × Blk)) (nx : Nat) (gs : List Nat) (d : Nat) (v : AV) : put ⟨sl, hp, nx, gs⟩ d v = ⟨(d, v) :: sl, hp, nx, gs⟩ := (rfl)
def putO (s : St) : Option Nat → AV → St
  | some d, v => put s d v
  | none, _ => s
@[go_sem] theorem putO_some (s : St) (d : Nat) (v : AV) : putO s (some d) v = put s d v := (rfl)
@[go_sem] theorem putO_none (s : St) (v : AV) : putO s none v = s := (rfl)
def Args (M : Mem) (ι : Nat → Option BI) (cs : List AV) (vs : List Value) : Prop := vs.length = cs.length ∧ ∀ (j : Nat) c v, cs[j]? = some c → vs[j]? = some v → Ar M ι c v
def Call (c : Cx) (f : Nat) (args : List AV) (s : St) (K : AV → St → Prop) : Prop :=
  ∀ M ι w, Wr c M ι s.hp s.nx s.gs w → ∀ vs, Args M ι args vs → Calls c.P f vs.toArray w fun e w' =>
    ∃ v r hp' nx' gs' M' ι', e = .returned v ∧ Ar M' ι' r v ∧ K r ⟨s.sl, hp', nx', gs'⟩ ∧ Wr c M' ι' hp' nx' gs' w' ∧ M.le M' ∧ (∀ b x, ι b = some x → ι' b = some x)
abbrev GOp := Option (Nat × Bool) × POp
def killS (b : Nat) (sl : List (Nat × AV)) : List (Nat × AV) := sl.map fun p => (p.1, kill b p.2)
def killB (b : Nat) : Blk → Blk
  | .var cs => .var (kill.killL b cs)
  | .row sz L => .row sz L
def killH (b : Nat) (hp : List (Nat × Blk)) : List (Nat × Blk) := hp.map fun p => (p.1, killB b p.2)
def fillR (sz : Nat) : List (List RV) → List (Nat × AV) → Option (List (List RV))
  | L, [] => some L
  | L, (i, v) :: ps => match v.cells with
    | some vs => match rvs vs with
      | some rs => if rs.length = sz ∧ i < L.length then fillR sz (L.set i rs) ps else none
      | none => none
    | none => none
def newRows (hp : List (Nat × Blk)) (sz : Nat) : AV → Option (Prop × List (List RV))
  | .r .nil => some (True, [])
  | .r (.ro _ L) => some (rowsN sz L, L)
  | .sl b st n => match hget hp b with
    | some (.row m L) => if m = sz then some (st + n ≤ L.length, (L.drop st).take n) else none
    | _ => none
  | _ => none
def goQ (q : QR) (d : Nat) (s : St) (K : St → Prop) : Prop := match q with
  | .val v => K (put s d v)
  | .need p v => p ∧ K (put s d v)
  | .asm p v => p → K (put s d v)
  | .bad => False
section
variable (c : Cx)
def ev1 (o : POp) (s : St) (K : St → Prop) : Prop := match o with
  | .al d z => K ⟨(d, .ptr s.nx 0 0) :: s.sl, (s.nx, .var (z.map .r)) :: s.hp, s.nx + 1, s.gs⟩
  | .bx d x => match (x.ev s.sl).cells with
    | some cs => K ⟨(d, .ptr s.nx 0 0) :: s.sl, (s.nx, .var cs) :: s.hp, s.nx + 1, s.gs⟩
    | none => False
  | .bs d sz len z ps => match fillR sz (List.replicate len z) (ps.map fun p => (p.1, p.2.ev s.sl)) with
    | some L => K ⟨(d, .sl s.nx 0 len) :: s.sl, (s.nx, .row sz L) :: s.hp, s.nx + 1, s.gs⟩
    | none => False
  | .st sz a x => match a.ev s.sl, (x.ev s.sl).cells with
    | .ptr b i f, some vs => vs.length = sz ∧ (match hget s.hp b with
      | some (.var cs) => (i = 0 ∧ f + sz ≤ cs.length) ∧ K { s with hp := hset s.hp b (.var (lay cs f vs)) }
      | some (.row n L) => (match rvs vs with
        | some rs => (i < L.length ∧ f + sz ≤ n) ∧ K { s with hp := hset s.hp b (.row n (L.set i (if sz = n then rs else layR (L.getD i []) f rs))) }
        | none => False)
      | none => False)
    | _, _ => False
  | .ap d sz bytes x y => match newRows s.hp sz (y.ev s.sl) with
    | some (p, news) => (match x.ev s.sl with
      | .sl b st n => st = 0 ∧ (match hget s.hp b with
        | some (.row n' L) => n' = sz ∧ ((p ∧ n ≤ L.length ∧ (n + news.length) * bytes ≤ 140737488355328) ∧
            if b < c.m then K ⟨(d, .sl s.nx 0 (n + news.length)) :: killS b s.sl, (s.nx, .row sz (L.take n ++ news)) :: hdel (killH b s.hp) b, s.nx + 1, s.gs⟩
            else K ⟨(d, .sl b 0 (n + news.length)) :: killS b s.sl, (b, .row sz (L.take n ++ news)) :: hdel (killH b s.hp) b, s.nx, s.gs⟩)
        | _ => False)
      | .r .nil => (p ∧ news.length * bytes ≤ 140737488355328) ∧ K ⟨(d, .sl s.nx 0 news.length) :: s.sl, (s.nx, .row sz news) :: s.hp, s.nx + 1, s.gs⟩
      | _ => False)
    | none => False
  | .mk d sz bytes z n => match n.ev s.sl with
    | .r (.n _ x) => (0 ≤ x ∧ (bytes : Int) * x ≤ 281474976710656) ∧ K ⟨(d, .sl s.nx 0 x.toNat) :: s.sl, (s.nx, .row sz (List.replicate x.toNat z)) :: s.hp, s.nx + 1, s.gs⟩
    | _ => False
  | .ca d f args => Call c f (args.map fun x => x.ev s.sl) s (fun r s' => K (putO s' d r))
  | .cf d f' x args => match x.ev s.sl with
    | .fn f caps => f = f' ∧ Call c f ((args.map fun x => x.ev s.sl) ++ caps) s (fun r s' => K (putO s' d r))
    | _ => False
  | .kp l => K { s with sl := l.map fun i => (i, get s.sl i) }
  | o => match o.dst with
    | some d => goQ (qv o s.sl s.hp) d s K
    | none => False
def ev : List GOp → St → (St → Prop) → Prop
  | [], s, K => K s
  | (none, o) :: rest, s, K => ev1 c o s fun s' => ev rest s' K
  | (some (g, want), o) :: rest, s, K => match get s.sl g with
    | .r (.b b) => (b = want → ev1 c o { s with sl := (g, .r (.b want)) :: s.sl } fun s' => ev rest s' K) ∧
        (b = !want → ev rest (putO { s with sl := (g, .r (.b !want)) :: s.sl } o.dst (.tup [])) K)
    | .tup [] => ev rest (putO s o.dst (.tup [])) K
    | _ => False
end
end Go.Cap
namespace Go.Cap
open Go
section
variable {c : Cx} {M : Mem} {ι : Nat → Option BI} {hp : List (Nat × Blk)} {nx : Nat} {gs : List Nat} {w : World} {s : St} {a : Act}
theorem get_put (s : St) (d i : Nat) (v : AV) : get (put s d v).sl i = if d = i then v else get s.sl i := rfl
theorem Slots.put {sl : List (Nat × AV)} {t : Array Value} (h : Slots M ι sl t) {d : Nat} {v : AV} {u : Value} (hv : Ar M ι v u) (hd : d < t.size) : Slots M ι ((d, v) :: sl) (t.setIfInBounds d u) := by
  intro i
  simp only [get]
  by_cases hi : d = i
  · subst hi
    simp [hd]
    exact hv
  · simp only [hi, if_false, Array.getD_eq_getD_getElem?, Array.getElem?_setIfInBounds_ne hi]
    have := h i
    simpa [Array.getD_eq_getD_getElem?] using this
theorem Sr.put (h : Sr c M ι s a w) {d : Nat} {v : AV} {u : Value} (hv : Ar M ι v u) (hd : d < c.nt) : Sr c M ι (Cap.put s d v) (a.put (some d) u) w :=
  ⟨h.wr, h.slots.put hv (by rw [h.nt]; exact hd), by simp [Act.put, h.nt], h.df⟩
theorem Slots.mono {M' : Mem} {ι' : Nat → Option BI} {sl : List (Nat × AV)} {t : Array Value} (h : Slots M ι sl t) (hm : M.le M') (hi : ∀ b x, ι b = some x → ι' b = some x) : Slots M' ι' sl t := fun i => (h i).mono hm hi
theorem Mem.le_refl (M : Mem) : M.le M := fun _ _ h => h
theorem Mem.le_trans {A B C : Mem} (h : A.le B) (k : B.le C) : A.le C := fun g x hx => k g x (h g x hx)
theorem MSub.lt (h : MSub M w) {g : Nat} {x : Array Value × TypeId × (Nat × Nat)} (hg : M g = some x) : g < w.heap.size := by
  obtain ⟨a, e, f⟩ := x
  exact (Array.getElem?_eq_some_iff.1 (h g a e f hg)).1
theorem MSub.none (h : MSub M w) {g : Nat} (hg : w.heap.size ≤ g) : M g = none := by
  cases hm : M g with
  | none => rfl
  | some x => have := h.lt hm; omega
theorem Br.ext {M' : Mem} {ι' : Nat → Option BI} {w' : World} {bi : BI} {blk : Blk} (h : Br M ι w bi blk) (hm : M.le M') (hi : ∀ b x, ι b = some x → ι' b = some x)
    (hw : ∀ g, bi.g = some g → w'.heap[g]? = w.heap[g]?) (hn : ∀ g, bi.g = some g → M' g = none) : Br M' ι' w' bi blk := by
  unfold Br at *
  cases hg : bi.g with
  | none => simpa [hg] using h
  | some g =>
    simp only [hg] at h ⊢
    obtain ⟨h0, arr, e, h1, h2, h3, h4⟩ := h
    refine ⟨hn g hg, arr, e, by rw [hw g hg]; exact h1, h2, h3, ?_⟩
    cases blk with
    | var cs => exact ⟨h4.1, h4.2.1, fun j x v hx hv => (h4.2.2 j x v hx hv).mono hm hi⟩
    | row sz L => exact ⟨h4.1, h4.2.1, h4.2.2.1, fun i j x v hx hv => (h4.2.2.2 i j x v hx hv).mono hm⟩
theorem Br.lt {bi : BI} {blk : Blk} {g : Nat} (h : Br M ι w bi blk) (hg : bi.g = some g) : g < w.heap.size ∧ M g = none := by
  unfold Br at h
  simp only [hg] at h
  obtain ⟨h0, arr, e, h1, _⟩ := h
  exact ⟨(Array.getElem?_eq_some_iff.1 h1).1, h0⟩
def upd (ι : Nat → Option BI) (b : Nat) (x : BI) : Nat → Option BI := fun i => if i = b then some x else ι i
theorem upd_at (b : Nat) (x : BI) : upd ι b x b = some x := by simp [upd]
theorem upd_ne {b i : Nat} (x : BI) (h : i ≠ b) : upd ι b x i = ι i := by simp [upd, h]
theorem upd_mono {b : Nat} (x : BI) (h : ι b = none) : ∀ i y, ι i = some y → upd ι b x i = some y := by
  intro i y hy
  by_cases hi : i = b
  · subst hi; rw [h] at hy; cases hy
  · rw [upd_ne x hi]; exact hy
theorem Wr.drew (h : Wr c M ι hp nx gs w) : Wr c M ι hp nx gs w.drew :=
  ⟨h.msub, h.m0, h.mnew, h.heap, h.inj, h.own, ⟨h.kept.os, h.kept.tape, h.kept.output, h.kept.size, h.kept.block⟩, h.fresh, h.mle, h.anc, h.gsn, h.gsm⟩
theorem heap_alloc_lt (w : World) (o : Obj) {g : Nat} (h : g < w.heap.size) : (w.alloc o).heap[g]? = w.heap[g]? := by
  show (w.heap.push o)[g]? = _
  rw [Array.getElem?_push, if_neg (by omega)]
theorem heap_alloc_at (w : World) (o : Obj) : (w.alloc o).heap[w.heap.size]? = some o := by
  show (w.heap.push o)[w.heap.size]? = _
  simp
theorem hget_ne_some {b : Nat} {hp : List (Nat × Blk)} (h : hget hp b ≠ none) : ∃ blk, hget hp b = some blk := by
  cases h' : hget hp b with
  | none => exact absurd h' h
  | some x => exact ⟨x, rfl⟩
theorem Wr.alloc (h : Wr c M ι hp nx gs w) (arr : Array Value) (e : TypeId) (cap sz : Nat) (blk : Blk)
    (hb : Br M (upd ι nx ⟨some w.heap.size, cap, sz⟩) (w.alloc (.cells arr e)) ⟨some w.heap.size, cap, sz⟩ blk) :
    Wr c M (upd ι nx ⟨some w.heap.size, cap, sz⟩) ((nx, blk) :: hp) (nx + 1) gs (w.alloc (.cells arr e)) := by
  have hnx := h.fresh nx (Nat.le_refl _)
  have hmono := upd_mono (ι := ι) ⟨some w.heap.size, cap, sz⟩ hnx
  have old : ∀ b, hget ((nx, blk) :: hp) b ≠ none → b ≠ nx → hget hp b ≠ none := fun b hb hne => by
    simp only [hget] at hb
    rwa [if_neg (Ne.symm hne)] at hb
  have hlt : ∀ b bi g, hget hp b ≠ none → ι b = some bi → bi.g = some g → g < w.heap.size := fun b bi g hb hi hg => by
    obtain ⟨blk', hblk⟩ := hget_ne_some hb
    obtain ⟨bi', h1, h2⟩ := h.heap b blk' hblk
    rw [hi] at h1; cases h1
    exact (h2.lt hg).1
  refine ⟨?_, h.m0, h.mnew, ?_, ?_, ?_, ?_, ?_, Nat.le_succ_of_le h.mle, fun b x hb hx => h.anc b x hb (by rwa [upd_ne _ (by have := h.mle; omega)] at hx), h.gsn, h.gsm⟩
  · intro g x e' f hg
    rw [heap_alloc_lt w _ (h.msub.lt hg)]
    exact h.msub g x e' f hg
  · intro b blk' hbk
    simp only [hget] at hbk
    by_cases hbn : nx = b
    · subst hbn
      simp only [if_true, Option.some.injEq] at hbk
      subst hbk
      exact ⟨_, upd_at _ _, hb⟩
    · rw [if_neg hbn] at hbk
      obtain ⟨bi, h1, h2⟩ := h.heap b blk' hbk
      refine ⟨bi, hmono _ _ h1, h2.ext (Mem.le_refl M) hmono (fun g hg => heap_alloc_lt w _ (h2.lt hg).1) (fun g hg => (h2.lt hg).2)⟩
  · intro b b' bi bi' g hb1 hb2 h1 h2 h3 h4
    by_cases e1 : b = nx <;> by_cases e2 : b' = nx
    · rw [e1, e2]
    · subst e1
      rw [upd_at] at h1; cases h1
      rw [upd_ne _ e2] at h2
      have := hlt b' bi' g (old b' hb2 e2) h2 h4
      simp at h3; omega
    · subst e2
      rw [upd_at] at h2; cases h2
      rw [upd_ne _ e1] at h1
      have := hlt b bi g (old b hb1 e1) h1 h3
      simp at h4; omega
    · rw [upd_ne _ e1] at h1
      rw [upd_ne _ e2] at h2
      exact h.inj b b' bi bi' g (old b hb1 e1) (old b' hb2 e2) h1 h2 h3 h4
  · intro b bi g hb1 h1 h2
    by_cases e1 : b = nx
    · subst e1
      rw [upd_at] at h1; cases h1
      simp at h2; subst h2
      exact .inl h.kept.size
    · rw [upd_ne _ e1] at h1
      exact h.own b bi g (old b hb1 e1) h1 h2
  · refine ⟨h.kept.os, h.kept.tape, h.kept.output, by have := h.kept.size; simp; omega, fun g hg hx => ?_⟩
    rw [heap_alloc_lt w _ (Nat.lt_of_lt_of_le hg h.kept.size)]
    exact h.kept.block g hg hx
  · intro b hb1
    rw [upd_ne _ (by omega)]
    exact h.fresh b (by omega)
end
end Go.Cap
namespace Go.Cap
open Go
section
variable {c : Cx} {M : Mem} {ι : Nat → Option BI} {hp : List (Nat × Blk)} {nx : Nat} {gs : List Nat} {w : World} {s : St} {a : Act}
theorem hget_hset (hp : List (Nat × Blk)) (b i : Nat) (x : Blk) : hget (hset hp b x) i = if i = b then some x else hget hp i := by
  induction hp with
  | nil =>
    simp only [hset, hget]
    by_cases h : i = b
    · simp [h]
    · simp [h, Ne.symm h]
  | cons p hp ih =>
    obtain ⟨j, v⟩ := p
    simp only [hset]
    by_cases hj : j = b
    · subst hj
      simp only [if_true, hget]
      by_cases h : i = j
      · subst h; simp
      · simp [h, Ne.symm h]
    · simp only [hj, if_false, hget, ih]
      by_cases h : j = i
      · subst h; simp [hj]
      · simp [h]
theorem hget_hdel (hp : List (Nat × Blk)) (b i : Nat) : hget (hdel hp b) i = if i = b then none else hget hp i := by
  induction hp with
  | nil => simp [hdel, hget]
  | cons p hp ih =>
    obtain ⟨j, v⟩ := p
    simp only [hdel]
    by_cases hj : j = b
    · subst hj
      simp only [if_true, ih, hget]
      by_cases h : i = j
      · simp [h]
      · simp [h, Ne.symm h]
    · simp only [hj, if_false, hget, ih]
      by_cases h : j = i
      · subst h; simp [hj]
      · simp [h]
theorem hget_killH (hp : List (Nat × Blk)) (b i : Nat) : hget (killH b hp) i = (hget hp i).map (killB b) := by
  induction hp with
  | nil => rfl
  | cons p hp ih =>
    obtain ⟨j, v⟩ := p
    simp only [killH, List.map_cons, hget]
    by_cases h : j = i
    · simp [h]
    · simp only [h, if_false]; exact ih
theorem get_killS (sl : List (Nat × AV)) (b i : Nat) : get (killS b sl) i = kill b (get sl i) := by
  induction sl with
  | nil => rfl
  | cons p sl ih =>
    obtain ⟨j, v⟩ := p
    simp only [killS, List.map_cons, get]
    by_cases h : j = i
    · simp [h]
    · simp only [h, if_false]; exact ih
theorem killL_get (b : Nat) : ∀ (cs : List AV) (j : Nat), (kill.killL b cs)[j]? = (cs[j]?).map (kill b)
  | [], j => by simp [kill.killL]
  | x :: cs, 0 => by simp [kill.killL]
  | x :: cs, j + 1 => by simpa [kill.killL] using killL_get b cs j
theorem killL_len (b : Nat) : ∀ (cs : List AV), (kill.killL b cs).length = cs.length
  | [] => rfl
  | x :: cs => by simp [kill.killL, killL_len b cs]
@[go_sem] theorem killL_map (b : Nat) : ∀ (l : List RV), kill.killL b (l.map .r) = l.map .r
  | [] => rfl
  | x :: l => by simp [kill.killL, kill, killL_map b l]
@[go_sem] theorem killL_nil (b : Nat) : kill.killL b [] = [] := (rfl)
@[go_sem] theorem killL_cons (b : Nat) (x : AV) (l : List AV) : kill.killL b (x :: l) = kill b x :: kill.killL b l := (rfl)
@[go_sem] theorem kill_r (b : Nat) (x : RV) : kill b (.r x) = .r x := (rfl)
@[go_sem] theorem kill_rp (b : Nat) (cs : List RV) (f : Nat) : kill b (.rp cs f) = .rp cs f := (rfl)
@[go_sem] theorem kill_junk (b : Nat) : kill b .junk = .junk := (rfl)
@[go_sem] theorem kill_agg (b : Nat) (cs : List AV) : kill b (.agg cs) = .agg (kill.killL b cs) := (rfl)
@[go_sem] theorem kill_tup (b : Nat) (cs : List AV) : kill b (.tup cs) = .tup (kill.killL b cs) := (rfl)
@[go_sem] theorem kill_fn (b f : Nat) (cs : List AV) : kill b (.fn f cs) = .fn f (kill.killL b cs) := (rfl)
@[go_sem] theorem kill_ptr (b b' i f : Nat) : kill b (.ptr b' i f) = if b' = b then .junk else .ptr b' i f := (rfl)
@[go_sem] theorem kill_sl (b b' st n : Nat) : kill b (.sl b' st n) = if b' = b then .junk else .sl b' st n := (rfl)
@[go_sem] theorem killS_nil (b : Nat) : killS b [] = [] := (rfl)
@[go_sem] theorem killS_cons (b j : Nat) (v : AV) (l : List (Nat × AV)) : killS b ((j, v) :: l) = (j, kill b v) :: killS b l := (rfl)
@[go_sem] theorem killH_nil (b : Nat) : killH b [] = [] := (rfl)
@[go_sem] theorem killH_var (b j : Nat) (cs : List AV) (l : List (Nat × Blk)) : killH b ((j, .var cs) :: l) = (j, .var (kill.killL b cs)) :: killH b l := (rfl)
@[go_sem] theorem killH_row (b j sz : Nat) (L : List (List RV)) (l : List (Nat × Blk)) : killH b ((j, .row sz L) :: l) = (j, .row sz L) :: killH b l := (rfl)
def del (ι : Nat → Option BI) (b : Nat) : Nat → Option BI := fun i => if i = b then none else ι i
theorem del_at (b : Nat) : del ι b b = none := by simp [del]
theorem del_ne {b i : Nat} (h : i ≠ b) : del ι b i = ι i := by simp [del, h]
theorem Ar.kill {x : AV} {v : Value} (b : Nat) (h : Ar M ι x v) : Ar M (del ι b) (kill b x) v := by
  induction h with
  | r x v h => exact .r x v h
  | ptr b' i f g cap sz h =>
    simp only [Cap.kill]
    split
    · exact .junk _
    · rename_i hne; exact .ptr b' i f g cap sz (by rw [del_ne hne]; exact h)
  | slv b' cap sz h =>
    simp only [Cap.kill]
    split
    · exact .junk _
    · rename_i hne; exact .slv b' cap sz (by rw [del_ne hne]; exact h)
  | sl b' st n c g cap sz h hn hc hm =>
    simp only [Cap.kill]
    split
    · exact .junk _
    · rename_i hne; exact .sl b' st n c g cap sz (by rw [del_ne hne]; exact h) hn hc hm
  | sle b' st a bi h =>
    simp only [Cap.kill]
    split
    · exact .junk _
    · rename_i hne; exact .sle b' st a bi (by rw [del_ne hne]; exact h)
  | rp cs f blk o arr e fr hM hv => exact .rp cs f blk o arr e fr hM hv
  | agg cs vs hl h1 h ih =>
    simp only [Cap.kill]
    refine .agg _ vs (by rw [hl, killL_len]) h1 fun j c v hc hv => ?_
    rw [killL_get] at hc
    cases hj : cs[j]? with
    | none => rw [hj] at hc; cases hc
    | some c0 => rw [hj] at hc; simp at hc; subst hc; exact ih j c0 v hj hv
  | tup cs vs hl h ih =>
    simp only [Cap.kill]
    refine .tup _ vs (by rw [hl, killL_len]) fun j c v hc hv => ?_
    rw [killL_get] at hc
    cases hj : cs[j]? with
    | none => rw [hj] at hc; cases hc
    | some c0 => rw [hj] at hc; simp at hc; subst hc; exact ih j c0 v hj hv
  | fn f cs vs hl h ih =>
    simp only [Cap.kill]
    refine .fn f _ vs (by rw [hl, killL_len]) fun j c v hc hv => ?_
    rw [killL_get] at hc
    cases hj : cs[j]? with
    | none => rw [hj] at hc; cases hc
    | some c0 => rw [hj] at hc; simp at hc; subst hc; exact ih j c0 v hj hv
  | junk v => exact .junk v
theorem Br.kill {bi : BI} {blk : Blk} (b : Nat) (h : Br M ι w bi blk) : Br M (del ι b) w bi (killB b blk) := by
  unfold Br at *
  cases hg : bi.g with
  | none =>
    simp only [hg] at h ⊢
    obtain ⟨sz, rfl⟩ := h
    exact ⟨sz, rfl⟩
  | some g =>
    simp only [hg] at h ⊢
    obtain ⟨h0, arr, e, h1, h2, h3, h4⟩ := h
    refine ⟨h0, arr, e, h1, h2, h3, ?_⟩
    cases blk with
    | var cs =>
      refine ⟨h4.1, by simp only [killL_len]; exact h4.2.1, fun j x v hx hv => ?_⟩
      rw [killL_get] at hx
      cases hj : cs[j]? with
      | none => rw [hj] at hx; cases hx
      | some c0 => rw [hj] at hx; simp at hx; subst hx; exact (h4.2.2 j c0 v hj hv).kill b
    | row sz L => exact h4
theorem Wr.forget (h : Wr c M ι hp nx gs w) (b : Nat) : Wr c M (del ι b) (hdel (killH b hp) b) nx gs w := by
  have key : ∀ i, hget (hdel (killH b hp) b) i ≠ none → i ≠ b ∧ hget hp i ≠ none := fun i hi => by
    rw [hget_hdel, hget_killH] at hi
    by_cases hb : i = b
    · simp [hb] at hi
    · refine ⟨hb, fun h0 => ?_⟩
      simp [hb, h0] at hi
  refine ⟨h.msub, h.m0, h.mnew, fun i blk hi => ?_, fun i j bi bj g hi hj h1 h2 h3 h4 => ?_, fun i bi g hi h1 h2 => ?_, h.kept, fun i hi => ?_, h.mle, fun i x hi hx => h.anc i x hi (by unfold del at hx; split at hx; cases hx; exact hx), h.gsn, h.gsm⟩
  · rw [hget_hdel, hget_killH] at hi
    by_cases hb : i = b
    · simp [hb] at hi
    · simp only [hb, if_false] at hi
      cases hg : hget hp i with
      | none => rw [hg] at hi; cases hi
      | some blk0 =>
        rw [hg] at hi; simp at hi; subst hi
        obtain ⟨bi, k1, k2⟩ := h.heap i blk0 hg
        exact ⟨bi, by rw [del_ne hb]; exact k1, k2.kill b⟩
  · obtain ⟨n1, n2⟩ := key i hi
    obtain ⟨n3, n4⟩ := key j hj
    rw [del_ne n1] at h1
    rw [del_ne n3] at h2
    exact h.inj i j bi bj g n2 n4 h1 h2 h3 h4
  · obtain ⟨n1, n2⟩ := key i hi
    rw [del_ne n1] at h1
    exact h.own i bi g n2 h1 h2
  · unfold del
    split
    · rfl
    · exact h.fresh i hi
theorem Slots.kill {sl : List (Nat × AV)} {t : Array Value} (h : Slots M ι sl t) (b : Nat) : Slots M (del ι b) (killS b sl) t := fun i => by
  rw [get_killS]; exact (h i).kill b
theorem Wr.add (h : Wr c M ι hp nx gs w) {w' : World} {b g nx' : Nat} (cap sz : Nat) (blk : Blk) (hb : ι b = none) (hhp : hget hp b = none) (hnx : nx ≤ nx') (hbx : c.m ≤ b ∧ b < nx')
    (hos : w'.os = w.os) (htape : w'.tape = w.tape) (hout : w'.output = w.output) (hsize : w.heap.size ≤ w'.heap.size)
    (hw : ∀ g', g' < w.heap.size → g' ≠ g → w'.heap[g']? = w.heap[g']?) (hM : M g = none) (hg : c.w0.heap.size ≤ g ∨ g ∈ c.X)
    (hun : ∀ i bi, hget hp i ≠ none → ι i = some bi → bi.g ≠ some g)
    (hB : Br M (upd ι b ⟨some g, cap, sz⟩) w' ⟨some g, cap, sz⟩ blk) : Wr c M (upd ι b ⟨some g, cap, sz⟩) ((b, blk) :: hp) nx' gs w' := by
  have hmono := upd_mono (ι := ι) ⟨some g, cap, sz⟩ hb
  have old : ∀ i, hget ((b, blk) :: hp) i ≠ none → i ≠ b → hget hp i ≠ none := fun i hi hne => by
    simp only [hget] at hi
    rwa [if_neg (Ne.symm hne)] at hi
  refine ⟨?_, h.m0, h.mnew, ?_, ?_, ?_, ?_, ?_, Nat.le_trans h.mle hnx, fun i x hi hx => h.anc i x hi (by rwa [upd_ne _ (by omega)] at hx), h.gsn, h.gsm⟩
  · intro g' x e' f hg'
    have hne : g' ≠ g := fun e => by rw [e, hM] at hg'; cases hg'
    rw [hw g' (h.msub.lt hg') hne]
    exact h.msub g' x e' f hg'
  · intro i blk' hi
    simp only [hget] at hi
    by_cases hib : b = i
    · subst hib
      simp only [if_true, Option.some.injEq] at hi
      subst hi
      exact ⟨_, upd_at _ _, hB⟩
    · rw [if_neg hib] at hi
      obtain ⟨bi, h1, h2⟩ := h.heap i blk' hi
      exact ⟨bi, hmono _ _ h1, h2.ext (Mem.le_refl M) hmono (fun g' hg' => hw g' (h2.lt hg').1 (fun e => hun i bi (by rw [hi]; simp) h1 (by rw [hg', e]))) (fun g' hg' => (h2.lt hg').2)⟩
  · intro i j bi bj g' hi hj h1 h2 h3 h4
    by_cases e1 : i = b <;> by_cases e2 : j = b
    · rw [e1, e2]
    · subst e1
      rw [upd_at] at h1; cases h1
      rw [upd_ne _ e2] at h2
      simp at h3
      exact absurd (by rw [h4, h3]) (hun j bj (old j hj e2) h2)
    · subst e2
      rw [upd_at] at h2; cases h2
      rw [upd_ne _ e1] at h1
      simp at h4
      exact absurd (by rw [h3, h4]) (hun i bi (old i hi e1) h1)
    · rw [upd_ne _ e1] at h1
      rw [upd_ne _ e2] at h2
      exact h.inj i j bi bj g' (old i hi e1) (old j hj e2) h1 h2 h3 h4
  · intro i bi g' hi h1 h2
    by_cases e1 : i = b
    · subst e1
      rw [upd_at] at h1; cases h1
      simp at h2; subst h2
      exact hg
    · rw [upd_ne _ e1] at h1
      exact h.own i bi g' (old i hi e1) h1 h2
  · refine ⟨hos.trans h.kept.os, htape.trans h.kept.tape, hout.trans h.kept.output, Nat.le_trans h.kept.size hsize, fun g' hg' hx => ?_⟩
    have hne : g' ≠ g := fun e => by subst e; rcases hg with h1 | h1; exact absurd hg' (by omega); exact hx h1
    rw [hw g' (Nat.lt_of_lt_of_le hg' h.kept.size) hne]
    exact h.kept.block g' hg' hx
  · intro i hi
    rw [upd_ne _ (by omega)]
    exact h.fresh i (by omega)
theorem Wr.addNil (h : Wr c M ι hp nx gs w) {b nx' : Nat} (sz : Nat) (hb : ι b = none) (hnx : nx ≤ nx') (hbx : c.m ≤ b ∧ b < nx') :
    Wr c M (upd ι b ⟨none, 0, sz⟩) ((b, .row sz []) :: hp) nx' gs w := by
  have hmono := upd_mono (ι := ι) ⟨none, 0, sz⟩ hb
  have old : ∀ i, hget ((b, .row sz []) :: hp) i ≠ none → i ≠ b → hget hp i ≠ none := fun i hi hne => by
    simp only [hget] at hi
    rwa [if_neg (Ne.symm hne)] at hi
  refine ⟨h.msub, h.m0, h.mnew, ?_, ?_, ?_, h.kept, ?_, Nat.le_trans h.mle hnx, fun i x hi hx => h.anc i x hi (by rwa [upd_ne _ (by omega)] at hx), h.gsn, h.gsm⟩
  · intro i blk' hi
    simp only [hget] at hi
    by_cases hib : b = i
    · subst hib
      simp only [if_true, Option.some.injEq] at hi
      subst hi
      exact ⟨_, upd_at _ _, ⟨sz, rfl⟩⟩
    · rw [if_neg hib] at hi
      obtain ⟨bi, h1, h2⟩ := h.heap i blk' hi
      exact ⟨bi, hmono _ _ h1, h2.ext (Mem.le_refl M) hmono (fun g' hg' => rfl) (fun g' hg' => (h2.lt hg').2)⟩
  · intro i j bi bj g' hi hj h1 h2 h3 h4
    by_cases e1 : i = b <;> by_cases e2 : j = b
    · rw [e1, e2]
    · subst e1
      rw [upd_at] at h1; cases h1; cases h3
    · subst e2
      rw [upd_at] at h2; cases h2; cases h4
    · rw [upd_ne _ e1] at h1
      rw [upd_ne _ e2] at h2
      exact h.inj i j bi bj g' (old i hi e1) (old j hj e2) h1 h2 h3 h4
  · intro i bi g' hi h1 h2
    by_cases e1 : i = b
    · subst e1
      rw [upd_at] at h1; cases h1; cases h2
    · rw [upd_ne _ e1] at h1
      exact h.own i bi g' (old i hi e1) h1 h2
  · intro i hi
    rw [upd_ne _ (by omega)]
    exact h.fresh i (by omega)
theorem Wr.write (h : Wr c M ι hp nx gs w) {w' : World} {b g cap sz : Nat} {blk blk' : Blk} (hb : hget hp b = some blk) (hι : ι b = some ⟨some g, cap, sz⟩)
    (hos : w'.os = w.os) (htape : w'.tape = w.tape) (hout : w'.output = w.output) (hsize : w'.heap.size = w.heap.size) (hw : ∀ g', g' ≠ g → w'.heap[g']? = w.heap[g']?)
    (hB : Br M ι w' ⟨some g, cap, sz⟩ blk') : Wr c M ι (hset hp b blk') nx gs w' := by
  have hne : ∀ i, hget (hset hp b blk') i ≠ none → hget hp i ≠ none := fun i hi => by
    rw [hget_hset] at hi
    by_cases hib : i = b
    · subst hib; rw [hb]; simp
    · simpa [hib] using hi
  obtain ⟨bi, k1, k2⟩ := h.heap b blk hb
  rw [hι] at k1; cases k1
  have hMg : M g = none := (k2.lt rfl).2
  refine ⟨?_, h.m0, h.mnew, ?_, ?_, ?_, ?_, h.fresh, h.mle, h.anc, h.gsn, h.gsm⟩
  · intro g' x e' f hg'
    have : g' ≠ g := fun e => by rw [e, hMg] at hg'; cases hg'
    rw [hw g' this]
    exact h.msub g' x e' f hg'
  · intro i blk0 hi
    rw [hget_hset] at hi
    by_cases hib : i = b
    · subst hib
      simp only [if_true, Option.some.injEq] at hi
      subst hi
      exact ⟨_, hι, hB⟩
    · rw [if_neg hib] at hi
      obtain ⟨bi, h1, h2⟩ := h.heap i blk0 hi
      exact ⟨bi, h1, h2.ext (Mem.le_refl M) (fun _ _ h => h) (fun g' hg' => hw g' (fun e => hib (h.inj i b bi _ g (by rw [hi]; simp) (by rw [hb]; simp) h1 hι (by rw [hg', e]) rfl))) (fun g' hg' => (h2.lt hg').2)⟩
  · intro i j bi bj g' hi hj h1 h2 h3 h4
    exact h.inj i j bi bj g' (hne i hi) (hne j hj) h1 h2 h3 h4
  · intro i bi g' hi h1 h2
    exact h.own i bi g' (hne i hi) h1 h2
  · refine ⟨hos.trans h.kept.os, htape.trans h.kept.tape, hout.trans h.kept.output, by rw [hsize]; exact h.kept.size, fun g' hg' hx => ?_⟩
    have : g' ≠ g := fun e => by
      subst e
      rcases h.own b _ g' (by rw [hb]; simp) hι rfl with h1 | h1
      · omega
      · exact hx h1
    rw [hw g' this]
    exact h.kept.block g' hg' hx
end
end Go.Cap
namespace Go.Cap
open Go
def WpOk (c : Cx) (o : Oper) (a : Act) (w : World) (K : St → Prop) : Prop :=
  ∀ (next : Act → World → Prop) (Q : Exit → Act → World → Prop), (∀ s' M' ι' a' w', K s' → Sr c M' ι' s' a' w' → next a' w') → o.wp c.P a w next Q
section
variable {c : Cx} {M : Mem} {ι : Nat → Option BI} {w : World} {s : St} {a : Act} {o : Oper} {K : St → Prop}
theorem WpOk.value {u : Value} {w' : World} {s' : St} {M' : Mem} {ι' : Nat → Option BI} (h : (execOp a.eval o).run c.P w = .ok (.value u) w') (hK : K s') (hs : Sr c M' ι' s' (a.put o.dst u) w') : WpOk c o a w K := by
  intro next Q hn
  unfold Oper.wp
  rw [h]
  exact hn _ _ _ _ _ hK hs
theorem WpOk.skip {w' : World} {s' : St} {M' : Mem} {ι' : Nat → Option BI} (h : (execOp a.eval o).run c.P w = .ok .skip w') (hd : o.dst = none) (hK : K s') (hs : Sr c M' ι' s' a w') : WpOk c o a w K := by
  intro next Q hn
  unfold Oper.wp
  rw [h]
  show next (a.put o.dst undef) w'
  rw [hd]
  exact hn _ _ _ _ _ hK hs
theorem Sr.newBlock (h : Sr c M ι s a w) (arr : Array Value) (e : TypeId) (cap sz : Nat) (blk : Blk) (hb : Br M (upd ι s.nx ⟨some w.heap.size, cap, sz⟩) (w.alloc (.cells arr e)) ⟨some w.heap.size, cap, sz⟩ blk)
    {d : Nat} {v : AV} {u : Value} (hv : Ar M (upd ι s.nx ⟨some w.heap.size, cap, sz⟩) v u) (hd : d < c.nt) :
    Sr c M (upd ι s.nx ⟨some w.heap.size, cap, sz⟩) ⟨(d, v) :: s.sl, (s.nx, blk) :: s.hp, s.nx + 1, s.gs⟩ (a.put (some d) u) (w.alloc (.cells arr e)) :=
  ⟨h.wr.alloc arr e cap sz blk hb, (h.slots.mono (Mem.le_refl M) (upd_mono _ (h.wr.fresh _ (Nat.le_refl _)))).put hv (by rw [h.nt]; exact hd), by simp [Act.put, h.nt], h.df⟩
theorem zero_rel {z : List RV} {v : Value} (h : vEqs z v.cells.toList = true) : v.cells.toList.length = z.length ∧ (∀ u ∈ v.cells.toList, u.oneCell' = true) ∧ ∀ (j : Nat) x u, z[j]? = some x → v.cells.toList[j]? = some u → Rr M x u := by
  obtain ⟨hl, hr⟩ := vEqs_spec (M := M) h
  refine ⟨hl, fun u hu => ?_, hr⟩
  obtain ⟨j, hj1, hj2⟩ := List.getElem_of_mem hu
  have hj : j < z.length := by omega
  exact (hr j _ u (List.getElem?_eq_getElem hj) (by rw [← hj2]; exact List.getElem?_eq_getElem hj1)).one
theorem o_al {d : Nat} {z : List RV} {e : TypeId} (h : Sr c M ι s a w) (ho : o.op = .alloc e) (hd : some d = o.dst) (hdn : d < c.nt) (hz : zeroIs c.P e z = true)
    (hK : K ⟨(d, .ptr s.nx 0 0) :: s.sl, (s.nx, .var (z.map .r)) :: s.hp, s.nx + 1, s.gs⟩) : WpOk c o a w K := by
  obtain ⟨i, v, hi, hiz, hve, hsz⟩ := zeroIs_spec hz
  obtain ⟨hl, h1, hr⟩ := zero_rel (M := M) hve
  refine WpOk.value (u := .pointer (some ⟨w.heap.size, 0, none⟩)) (w' := w.alloc (.cells v.cells e)) ?_ hK (hd ▸ h.newBlock v.cells e 1 z.length _ ?_ ?_ hdn)
  · simp [execOp, ho, Instr.alloc, zeroValue, typeInfo, hi, hiz, newVar, newRow]
  · refine ⟨h.wr.msub.none (Nat.le_refl _), v.cells, e, heap_alloc_at w _, ?_, h1, trivial, by simp, fun j x u hx hu => ?_⟩
    · simp at hl ⊢; exact hl
    · rw [List.getElem?_map] at hx
      cases hj : z[j]? with
      | none => rw [hj] at hx; cases hx
      | some y => rw [hj] at hx; simp at hx; subst hx; exact .r _ _ (hr j y u hj (by simpa using hu))
  · have := Ar.ptr (M := M) (ι := upd ι s.nx ⟨some w.heap.size, 1, z.length⟩) s.nx 0 0 w.heap.size 1 z.length (upd_at _ _)
    simpa using this
theorem o_bx {d : Nat} {x : Opd} {x' : Operand} {e : TypeId} {cs : List AV} (h : Sr c M ι s a w) (ho : o.op = .box e x') (hx : opdC x x' = true) (hd : some d = o.dst) (hdn : d < c.nt) (hc : (x.ev s.sl).cells = some cs)
    (hK : K ⟨(d, .ptr s.nx 0 0) :: s.sl, (s.nx, .var cs) :: s.hp, s.nx + 1, s.gs⟩) : WpOk c o a w K := by
  obtain ⟨vs, hv, hl, h1, hr⟩ := (opdC_spec (M := M) (ι := ι) h.slots hx).cells hc
  refine WpOk.value (u := .pointer (some ⟨w.heap.size, 0, none⟩)) (w' := w.alloc (.cells vs.toArray e)) ?_ hK (hd ▸ h.newBlock vs.toArray e 1 cs.length _ ?_ ?_ hdn)
  · simp [execOp, ho, Instr.box, newVar, newRow, hv]
  · refine ⟨h.wr.msub.none (Nat.le_refl _), vs.toArray, e, heap_alloc_at w _, by simp [hl], by simpa using h1, trivial, by simp, fun j x u hx hu => ?_⟩
    exact (hr j x u hx (by simpa using hu)).mono (Mem.le_refl M) (upd_mono _ (h.wr.fresh _ (Nat.le_refl _)))
  · have := Ar.ptr (M := M) (ι := upd ι s.nx ⟨some w.heap.size, 1, cs.length⟩) s.nx 0 0 w.heap.size 1 cs.length (upd_at _ _)
    simpa using this
structure RowRel (M : Mem) (sz : Nat) (L : List (List RV)) (us : List Value) : Prop where
  len : us.length = L.length * sz
  rows : ∀ r ∈ L, r.length = sz
  one : ∀ u ∈ us, u.oneCell' = true
  rel : ∀ (i j : Nat) x u, (L[i]?).bind (·[j]?) = some x → us[i * sz + j]? = some u → Rr M x u
theorem idx_lt {i n j sz : Nat} (hi : i < n) (hj : j < sz) : i * sz + j < n * sz := by
  have : (i + 1) * sz ≤ n * sz := Nat.mul_le_mul_right _ hi
  rw [Nat.add_mul] at this; omega
theorem row_at {L : List (List RV)} {i j : Nat} {x : RV} {sz : Nat} (hr : ∀ r ∈ L, r.length = sz) (h : (L[i]?).bind (·[j]?) = some x) : i < L.length ∧ j < sz := by
  cases hi : L[i]? with
  | none => rw [hi] at h; cases h
  | some r =>
    rw [hi] at h
    have h' : r[j]? = some x := h
    refine ⟨(List.getElem?_eq_some_iff.1 hi).1, ?_⟩
    rw [← hr r (List.mem_of_getElem? hi)]
    exact (List.getElem?_eq_some_iff.1 h').1
theorem RowRel.set {sz : Nat} {L : List (List RV)} {us ws : List Value} {rs : List RV} {i f : Nat} {r' : List RV} (h : RowRel M sz L us) (hi : i < L.length) (hf : f + rs.length ≤ sz) (hwl : ws.length = rs.length) (hw1 : ∀ u ∈ ws, u.oneCell' = true)
    (hwr : ∀ (j : Nat) x u, rs[j]? = some x → ws[j]? = some u → Rr M x u) (hr' : r' = (L.getD i []).take f ++ rs ++ (L.getD i []).drop (f + rs.length)) :
    RowRel M sz (L.set i r') (us.take (i * sz + f) ++ ws ++ us.drop (i * sz + f + ws.length)) := by
  have hgd : L.getD i [] = L[i] := by simp [List.getD_eq_getElem?_getD, List.getElem?_eq_getElem hi]
  have hlen := h.rows _ (List.getElem_mem hi)
  rw [hgd] at hr'
  have hle : i * sz + sz ≤ us.length := by
    rw [h.len]
    have : (i + 1) * sz ≤ L.length * sz := Nat.mul_le_mul_right _ hi
    rw [Nat.add_mul] at this; omega
  have hrl : r'.length = sz := by rw [hr']; simp [hlen]; omega
  refine ⟨?_, ?_, ?_, ?_⟩
  · simp only [List.length_append, List.length_take, List.length_drop, List.length_set]
    rw [← h.len]; omega
  · intro r hr
    rcases List.mem_or_eq_of_mem_set hr with hr | rfl
    · exact h.rows r hr
    · exact hrl
  · intro u hu
    simp only [List.mem_append] at hu
    rcases hu with (hu | hu) | hu
    · exact h.one u (List.mem_of_mem_take hu)
    · exact hw1 u hu
    · exact h.one u (List.mem_of_mem_drop hu)
  · intro i' j x u hx hu
    have hrows' : ∀ r ∈ L.set i r', r.length = sz := fun r hr => by
      rcases List.mem_or_eq_of_mem_set hr with hr | rfl
      · exact h.rows r hr
      · exact hrl
    obtain ⟨b1, b2⟩ := row_at hrows' hx
    rw [List.length_set] at b1
    rw [List.getElem?_set] at hx
    simp only [List.getElem?_append, List.length_append, List.length_take, List.getElem?_take, List.getElem?_drop] at hu
    have m1 : min (i * sz + f) us.length = i * sz + f := by omega
    rw [m1] at hu
    by_cases hii : i = i'
    · subst hii
      simp only [hi, if_true] at hx
      have hx' : r'[j]? = some x := hx
      rw [hr'] at hx'
      simp only [List.getElem?_append, List.length_append, List.length_take, List.getElem?_take, List.getElem?_drop, hlen] at hx'
      have m2 : min f sz = f := by omega
      rw [m2] at hx'
      by_cases c1 : j < f
      · rw [if_pos (by omega), if_pos (by omega), if_pos (by omega)] at hu
        rw [if_pos (by omega), if_pos (by omega), if_pos c1] at hx'
        exact h.rel i j x u (by rw [List.getElem?_eq_getElem hi]; exact hx') hu
      · by_cases c2 : j < f + rs.length
        · rw [if_pos (by omega), if_neg (by omega)] at hu
          rw [if_pos (by omega), if_neg (by omega)] at hx'
          rw [show i * sz + j - (i * sz + f) = j - f by omega] at hu
          exact hwr _ x u hx' hu
        · rw [if_neg (by omega)] at hu
          rw [if_neg (by omega)] at hx'
          rw [show i * sz + f + ws.length + (i * sz + j - (i * sz + f + ws.length)) = i * sz + j by omega] at hu
          rw [show f + rs.length + (j - (f + rs.length)) = j by omega] at hx'
          exact h.rel i j x u (by rw [List.getElem?_eq_getElem hi]; exact hx') hu
    · simp only [hii, if_false] at hx
      rcases Nat.lt_or_gt_of_ne hii with hlt | hgt
      · have : (i + 1) * sz ≤ i' * sz := Nat.mul_le_mul_right _ hlt
        rw [Nat.add_mul] at this
        rw [if_neg (by omega)] at hu
        rw [show i * sz + f + ws.length + (i' * sz + j - (i * sz + f + ws.length)) = i' * sz + j by omega] at hu
        exact h.rel i' j x u hx hu
      · have : (i' + 1) * sz ≤ i * sz := Nat.mul_le_mul_right _ hgt
        rw [Nat.add_mul] at this
        rw [if_pos (by omega), if_pos (by omega), if_pos (by omega)] at hu
        exact h.rel i' j x u hx hu
theorem fillR_rel {sz : Nat} : ∀ (ps : List (Nat × AV)) (qs : List (Nat × Value)) (L0 L : List (List RV)) (us : List Value), qs.length = ps.length → (∀ (j : Nat) p q, ps[j]? = some p → qs[j]? = some q → p.1 = q.1 ∧ Ar M ι p.2 q.2) →
    RowRel M sz L0 us → fillR sz L0 ps = some L → ∃ ws : List Value, Instr.fill (fun i => some (i * sz, sz)) us.toArray qs = some ws.toArray ∧ RowRel M sz L ws ∧ L.length = L0.length
  | [], [], L0, L, us, _, _, hr, hf => by simp [fillR] at hf; subst hf; exact ⟨us, rfl, hr, rfl⟩
  | [], _ :: _, _, _, _, hlen, _, _, _ => by simp at hlen
  | _ :: _, [], _, _, _, hlen, _, _, _ => by simp at hlen
  | (i, v) :: ps, (k, u) :: qs, L0, L, us, hlen, hp, hr, hf => by
    simp only [fillR] at hf
    cases hvc : v.cells with
    | none => simp [hvc] at hf
    | some vs =>
      simp only [hvc] at hf
      cases hrv : rvs vs with
      | none => simp [hrv] at hf
      | some rs =>
        simp only [hrv] at hf
        split at hf
        case isFalse => cases hf
        rename_i hcond
        obtain ⟨hsz, hi⟩ := hcond
        obtain ⟨hik, har⟩ := hp 0 _ _ rfl rfl
        simp only at hik
        subst hik
        obtain ⟨ws, hws, hwl, hw1, hwr⟩ := har.cells hvc
        obtain ⟨k1, k2⟩ := rvs_vals hrv hwl hwr
        have hset := hr.set (f := 0) (rs := rs) (r' := rs) hi (by omega) k1 hw1 k2 (by
          have : (L0.getD i []).length = sz := by rw [List.getD_eq_getElem?_getD, List.getElem?_eq_getElem hi]; exact hr.rows _ (List.getElem_mem hi)
          rw [List.take_zero, List.nil_append, List.drop_eq_nil_of_le (by rw [this]; omega), List.append_nil])
        obtain ⟨ws', h1, h2, h3⟩ := fillR_rel ps qs _ L _ (by simpa using hlen) (fun j p q hj hq => hp (j + 1) p q (by simpa using hj) (by simpa using hq)) hset hf
        refine ⟨ws', ?_, h2, by rw [h3, List.length_set]⟩
        have hle : i * sz + sz ≤ us.length := by
          rw [hr.len]
          have : (i + 1) * sz ≤ L0.length * sz := Nat.mul_le_mul_right _ hi
          rw [Nat.add_mul] at this; omega
        simp only [Instr.fill, hws]
        have e1 : ws.toArray.size = sz := by simp; omega
        have e2 : ¬ (i * sz + sz > us.toArray.size) := by simp; omega
        simp only [e1, ne_eq, not_true_eq_false, decide_false, Bool.false_or, decide_eq_true_eq]
        rw [if_neg (by simpa using e2), ← h1]
        congr 1
        apply Array.toList_inj.1
        have := foldl_lay ws 0 us.toArray (i * sz) (by simp; omega)
        simp only [Nat.add_zero] at this
        rw [← Array.foldl_toList]
        simpa using this
theorem rowC_spec {sz : Nat} (hs : Slots M ι s.sl a.tmps) : ∀ {ps : List (Nat × Opd)} {os : List (Nat × Operand)}, rowC sz ps os = true → os.length = ps.length ∧
    ∀ (j : Nat) p q, (ps.map fun p => (p.1, p.2.ev s.sl))[j]? = some p → (os.map fun q => (q.1, a.eval q.2))[j]? = some q → p.1 = q.1 ∧ Ar M ι p.2 q.2
  | [], [], _ => ⟨rfl, fun j p q h => by simp at h⟩
  | [], _ :: _, h => by simp [rowC] at h
  | (_, _) :: _, [], h => by simp [rowC] at h
  | (i, x) :: ps, (k, y) :: os, h => by
    simp only [rowC, Bool.and_eq_true, decide_eq_true_eq] at h
    obtain ⟨⟨rfl, h2⟩, h3⟩ := h
    obtain ⟨hl, hr⟩ := rowC_spec (sz := sz) hs h3
    refine ⟨by simp [hl], fun j p q hp hq => ?_⟩
    cases j with
    | zero => simp at hp hq; subst hp; subst hq; exact ⟨rfl, opdC_spec hs h2⟩
    | succ j => exact hr j p q (by simpa using hp) (by simpa using hq)
theorem zero_rows {z : List RV} {zs : List Value} {len : Nat} (hl : zs.length = z.length) (h0 : 0 < z.length) (h1 : ∀ u ∈ zs, u.oneCell' = true) (hr : ∀ (j : Nat) x u, z[j]? = some x → zs[j]? = some u → Rr M x u) :
    RowRel M z.length (List.replicate len z) ((List.range (len * z.length)).map fun i => zs.toArray[i % zs.toArray.size]!) := by
  have hge : ∀ k, k < zs.length → zs.toArray[k]! = zs[k]! := fun k hk => by simp
  refine ⟨by simp, fun r hr' => by rw [(List.mem_replicate.1 hr').2], fun u hu => ?_, fun i j x u hx hu => ?_⟩
  · obtain ⟨i, hi, rfl⟩ := List.mem_map.1 hu
    have hlt : i % zs.toArray.size < zs.length := by simp [hl]; exact Nat.mod_lt _ h0
    rw [hge _ hlt, getElem!_pos zs _ hlt]
    exact h1 _ (List.getElem_mem hlt)
  · obtain ⟨b1, b2⟩ := row_at (sz := z.length) (fun r hr' => by rw [(List.mem_replicate.1 hr').2]) hx
    simp at b1
    rw [List.getElem?_replicate, if_pos b1] at hx
    have hx' : z[j]? = some x := hx
    rw [List.getElem?_map, List.getElem?_range (idx_lt b1 b2)] at hu
    simp only [Option.map_some, Option.some.injEq] at hu
    have hm : (i * z.length + j) % zs.toArray.size = j := by
      simp only [List.size_toArray, hl]
      rw [Nat.mul_comm, Nat.mul_add_mod, Nat.mod_eq_of_lt b2]
    rw [hm] at hu
    have hj : j < zs.length := by omega
    rw [hge _ hj, getElem!_pos zs _ hj] at hu
    exact hr j x u hx' (by rw [← hu]; exact List.getElem?_eq_getElem hj)
theorem o_bs {d sz len : Nat} {z : List RV} {ps : List (Nat × Opd)} {t e : TypeId} {parts : Array (Nat × Operand)} {L : List (List RV)} (h : Sr c M ι s a w) (ho : o.op = .buildSlice t len parts) (hd : some d = o.dst) (hdn : d < c.nt)
    (ht : isSlice c.P t = some e) (h24 : len * sz ≤ 16777216) (hsz : sizeIs c.P e sz = true) (hz : zeroIs c.P e z = true) (hrc : rowC sz ps parts.toList = true) (h0 : 0 < sz)
    (hL : fillR sz (List.replicate len z) (ps.map fun p => (p.1, p.2.ev s.sl)) = some L)
    (hK : K ⟨(d, .sl s.nx 0 len) :: s.sl, (s.nx, .row sz L) :: s.hp, s.nx + 1, s.gs⟩) : WpOk c o a w K := by
  have hu := isSlice_spec ht
  obtain ⟨i, v, hi, hiz, hve, hsz'⟩ := zeroIs_spec hz
  obtain ⟨i', hi', hs2⟩ := sizeIs_spec hsz
  rw [hi] at hi'; cases hi'
  have hzl : z.length = sz := by omega
  subst hzl
  obtain ⟨hl, h1, hr⟩ := zero_rel (M := M) hve
  obtain ⟨q1, q2⟩ := rowC_spec (sz := z.length) h.slots hrc
  have hrows := zero_rows (M := M) (len := len) hl h0 h1 hr
  obtain ⟨ws, hw1, hw2, hw3⟩ := fillR_rel (M := M) (ι := ι) (ps.map fun p => (p.1, p.2.ev s.sl)) (parts.toList.map fun q => (q.1, a.eval q.2)) _ L _ (by simp [q1]) q2 hrows hL
  simp only [List.length_replicate] at hw3
  refine WpOk.value (u := .slice (some ⟨w.heap.size, 0, none⟩) len len) (w' := w.alloc (.cells ws.toArray e)) ?_ hK (hd ▸ h.newBlock ws.toArray e len z.length _ ?_ ?_ hdn)
  · have hpm : (parts.map fun x => match x with | (i, x) => (i, a.eval x)).toList = parts.toList.map fun q => (q.1, a.eval q.2) := by simp
    have hn24 : ¬ (len * z.length > 2 ^ 24) := by omega
    simp only [execOp, ho, Instr.buildSlice, Sem.run_bind, run_underlying hu, Result.andThen_ok, sizeOf, typeInfo, run_program, hi, Sem.run_pure, hs2, if_neg hn24]
    by_cases hlz : len * z.length = 0
    · have hfill : Instr.fill (fun i => some (i * z.length, z.length)) ((Array.range 0).map ((#[] : Array Value)[· % (#[] : Array Value).size]!)) (parts.toList.map fun q => (q.1, a.eval q.2)) = some ws.toArray := by
        rw [← hw1, hlz]
        congr 1
        rw [show Array.range 0 = #[] from rfl, show List.range 0 = [] from rfl]
        simp
      simp only [hlz, if_true, Sem.run_bind, Sem.run_pure, Result.andThen_ok, hpm, hfill, newRow, run_newObj]
      rfl
    · have hfill : Instr.fill (fun i => some (i * z.length, z.length)) ((Array.range (len * z.length)).map (v.cells[· % v.cells.size]!)) (parts.toList.map fun q => (q.1, a.eval q.2)) = some ws.toArray := by
        rw [← hw1]
        congr 1
        apply Array.toList_inj.1
        simp [Array.toList_range]
      simp only [hlz, if_false, zeroValue, typeInfo, run_program, hi, hiz, Sem.run_bind, Sem.run_pure, Result.andThen_ok, hpm, hfill, newRow, run_newObj]
      rfl
  · refine ⟨h.wr.msub.none (Nat.le_refl _), ws.toArray, e, heap_alloc_at w _, by simp [hw2.len, hw3], by simpa using hw2.one, rfl, by simp [hw3], hw2.rows, fun i j x u hx hu => hw2.rel i j x u hx (by simpa using hu)⟩
  · have := Ar.sl (M := M) (ι := upd ι s.nx ⟨some w.heap.size, len, z.length⟩) s.nx 0 len len w.heap.size len z.length (upd_at _ _) (Nat.le_refl _) (by omega) (by
      have : len ≤ len * z.length := Nat.le_mul_of_pos_right _ h0
      simp [maxLen]; omega)
    simpa using this
end
end Go.Cap
namespace Go.Cap
open Go
section
variable {c : Cx} {M : Mem} {ι : Nat → Option BI} {w : World} {s : St} {a : Act} {o : Oper} {K : St → Prop}
theorem Sr.write (h : Sr c M ι s a w) {b g cap sz : Nat} {blk blk' : Blk} (hb : hget s.hp b = some blk) (hι : ι b = some ⟨some g, cap, sz⟩) (arr' : Array Value) (hB : Br M ι (w.setRow g arr') ⟨some g, cap, sz⟩ blk') :
    Sr c M ι { s with hp := hset s.hp b blk' } a (w.setRow g arr') :=
  ⟨h.wr.write hb hι rfl rfl rfl (by simp) (fun g' hg' => setRow_other w g g' arr' hg') hB, h.slots, h.nt, h.df⟩
theorem o_st {sz : Nat} {ax x : Opd} {a' x' : Operand} {t : TypeId} {b i f : Nat} {vs : List AV} (h : Sr c M ι s a w) (ho : o.op = .store t a' x') (ha : opdC ax a' = true) (hx : opdC x x' = true) (hz : sizeIs c.P t sz = true) (hd : o.dst = none)
    (hp : ax.ev s.sl = .ptr b i f) (hc : (x.ev s.sl).cells = some vs) (hl : vs.length = sz) {blk : Blk} (hb : hget s.hp b = some blk)
    (hcase : (∃ cs, blk = .var cs ∧ i = 0 ∧ f + sz ≤ cs.length ∧ K { s with hp := hset s.hp b (.var (lay cs f vs)) }) ∨
      (∃ n L rs r', blk = .row n L ∧ rvs vs = some rs ∧ i < L.length ∧ f + sz ≤ n ∧ r' = (L.getD i []).take f ++ rs ++ (L.getD i []).drop (f + rs.length) ∧ K { s with hp := hset s.hp b (.row n (L.set i r')) })) : WpOk c o a w K := by
  have har := opdC_spec (M := M) (ι := ι) h.slots ha
  rw [hp] at har
  obtain ⟨us, hus, hul, hu1, hur⟩ := (opdC_spec (M := M) (ι := ι) h.slots hx).cells hc
  obtain ⟨ti, hti, htz⟩ := sizeIs_spec hz
  generalize hv : a.eval a' = v at har
  cases har with
  | ptr _ _ _ g cap sz0 hι =>
    obtain ⟨bi, hbi, hBr⟩ := h.wr.heap b blk hb
    rw [hι] at hbi; cases hbi
    have run : ∀ (off : Nat) (arr : Array Value) (e : TypeId), off = i * sz0 + f → w.heap[g]? = some (.cells arr e (0, 0)) → off + us.length ≤ arr.size →
        (execOp a.eval o).run c.P w = .ok .skip (w.setRow g (arr.toList.take off ++ us ++ arr.toList.drop (off + us.length)).toArray) := by
      intro off arr e hoff hg hfit
      subst hoff
      have hst := run_storeCells_at c.P g (i * sz0 + f) e us 0 arr w hg (by simpa using hfit) hu1
      simp only [Nat.add_zero] at hst
      have hsz : us.toArray.size = sz := by simp; omega
      simp only [execOp, ho, hv, Instr.storeAt, Instr.sureAddr, storeVar, sizeOf, typeInfo, Sem.run_bind, Sem.run_pure, run_program, hti, htz, Result.andThen_ok, hus, hsz, ne_eq, not_true_eq_false, if_false, hst]
    rcases hcase with ⟨cs, rfl, rfl, hf, hK⟩ | ⟨n, L, rs, r', rfl, hrs, hi, hf, hr', hK⟩
    · obtain ⟨hMg, arr, e, hg, hsz, hone, hcap, hlen, hcs⟩ := hBr
      simp only at hlen hsz
      refine WpOk.skip (run (0 * sz0 + f) arr e rfl hg (by simp; omega)) hd hK (h.write hb hι _ ?_)
      have e0 : 0 * sz0 + f = f := by omega
      rw [e0]
      have hal : arr.toList.length = cs.length := by simp; omega
      obtain ⟨k1, k2, k3⟩ := lay_rel (M := M) (ι := ι) (off := f) hal hone (fun j c0 v0 h1 h2 => hcs j c0 v0 h1 (by simpa using h2)) hul hu1 hur (by omega)
      refine ⟨hMg, _, e, setRow_heap w g arr _ e _ hg, ?_, by simpa using k2, trivial, ?_, fun j c0 v0 h1 h2 => k3 j c0 v0 h1 (by simpa using h2)⟩
      · simp only [List.size_toArray, k1]
        rw [lay_length _ _ _ (by omega)]; omega
      · rw [lay_length _ _ _ (by omega)]; exact hlen
    · obtain ⟨hMg, arr, e, hg, hsz, hone, hm, hlen, hrow, hcs⟩ := hBr
      simp only at hm hlen hsz
      subst hm
      have hrsl : rs.length = vs.length := by
        have := rvs_spec hrs; rw [this]; simp
      have hin : i * n + f + us.length ≤ arr.size := by
        rw [hsz]
        have : (i + 1) * n ≤ cap * n := Nat.mul_le_mul_right _ (by omega)
        rw [Nat.add_mul] at this; omega
      refine WpOk.skip (run (i * n + f) arr e rfl hg hin) hd hK (h.write hb hι _ ?_)
      obtain ⟨q1, q2⟩ := rvs_vals hrs hul hur
      have hLn : L.length * n ≤ arr.size := by rw [hsz]; exact Nat.mul_le_mul_right _ hlen
      have hbase : RowRel M n L (arr.toList.take (L.length * n)) := by
        refine ⟨by simp; omega, hrow, fun u hu => hone u (List.mem_of_mem_take hu), fun i' j x0 u0 h1 h2 => ?_⟩
        rw [List.getElem?_take] at h2
        split at h2
        · exact hcs i' j x0 u0 h1 (by simpa using h2)
        · cases h2
      have hset := hbase.set (f := f) (rs := rs) (r' := r') hi (by omega) q1 hu1 q2 hr'
      have hgi : i * n + f + us.length ≤ L.length * n := by
        have : (i + 1) * n ≤ L.length * n := Nat.mul_le_mul_right _ hi
        rw [Nat.add_mul] at this; omega
      refine ⟨hMg, _, e, setRow_heap w g arr _ e _ hg, ?_, ?_, rfl, by simpa using hlen, hset.rows, fun i' j x0 u0 h1 h2 => ?_⟩
      · simp; omega
      · intro u hu
        simp only [List.mem_append] at hu
        rcases hu with (hu | hu) | hu
        · exact hone u (List.mem_of_mem_take hu)
        · exact hu1 u hu
        · exact hone u (List.mem_of_mem_drop hu)
      · obtain ⟨b1, b2⟩ := row_at hset.rows h1
        rw [List.length_set] at b1
        have hlt := idx_lt b1 b2
        refine hset.rel i' j x0 u0 h1 ?_
        rw [List.getElem?_toArray] at h2
        rw [← h2]
        simp only [List.getElem?_append, List.length_append, List.length_take, List.getElem?_take, List.getElem?_drop, Array.length_toList]
        have m1 : min (i * n + f) (min (L.length * n) arr.size) = i * n + f := by omega
        have m2 : min (i * n + f) arr.size = i * n + f := by omega
        rw [m1, m2]
        split
        · split <;> rfl
        · rw [if_pos (by omega)]
theorem o_mk {d sz bytes : Nat} {z : List RV} {n : Opd} {l cp : Operand} {t e : TypeId} {k : IntKind} {x : Int} (h : Sr c M ι s a w) (ho : o.op = .makeSlice t l cp) (hd : some d = o.dst) (hdn : d < c.nt) (hl : opdC n l = true) (hcp : opdC n cp = true)
    (ht : isSlice c.P t = some e) (hz : zeroIs c.P e z = true) (hsz : sizeIs c.P e sz = true) (hby : bytesIs c.P e bytes = true) (hb0 : 0 < bytes) (h0 : 0 < sz) (hn : n.ev s.sl = .r (.n k x)) (hx0 : 0 ≤ x) (hx1 : (bytes : Int) * x ≤ 281474976710656)
    (hK : K ⟨(d, .sl s.nx 0 x.toNat) :: s.sl, (s.nx, .row sz (List.replicate x.toNat z)) :: s.hp, s.nx + 1, s.gs⟩) : WpOk c o a w K := by
  have hu := isSlice_spec ht
  obtain ⟨i, v, hi, hiz, hve, hsz'⟩ := zeroIs_spec hz
  obtain ⟨i', hi', hs2⟩ := sizeIs_spec hsz
  rw [hi] at hi'; cases hi'
  obtain ⟨i', hi', hb2⟩ := bytesIs_spec hby
  rw [hi] at hi'; cases hi'
  have hzl : z.length = sz := by omega
  subst hzl
  obtain ⟨zl, z1, zr⟩ := zero_rel (M := M) hve
  have a1 := opdC_spec (M := M) (ι := ι) h.slots hl
  have a2 := opdC_spec (M := M) (ι := ι) h.slots hcp
  rw [hn] at a1 a2
  have hxb : x ≤ 281474976710656 := by
    have : (1 : Int) * x ≤ (bytes : Int) * x := Int.mul_le_mul_of_nonneg_right (by omega) hx0
    omega
  have hrun := run_make (P := c.P) w t e i v hu hi hiz k k x x hx0 (Int.le_refl _) (by rw [hb2]; exact hx1) (by omega)
  have hrows := zero_rows (M := M) (len := x.toNat) zl h0 z1 zr
  have hmade : (madeCells v.cells (x.toNat * i.size)) = (((List.range (x.toNat * z.length)).map fun i => v.cells.toList.toArray[i % v.cells.toList.toArray.size]!)).toArray := by
    apply Array.toList_inj.1
    simp [madeCells, Array.toList_range, hs2]
  rw [hmade] at hrun
  generalize ((List.range (x.toNat * z.length)).map fun i => v.cells.toList.toArray[i % v.cells.toList.toArray.size]!) = ws at hrows hrun
  refine WpOk.value (u := .slice (some ⟨w.heap.size, 0, none⟩) x.toNat x.toNat) (w' := w.alloc (.cells ws.toArray e)) ?_ hK (hd ▸ h.newBlock ws.toArray e x.toNat z.length _ ?_ ?_ hdn)
  · simp only [execOp, ho, a1.rn, a2.rn, Sem.run_bind, hrun, Result.andThen_ok, Sem.run_pure]
  · refine ⟨h.wr.msub.none (Nat.le_refl _), ws.toArray, e, heap_alloc_at w _, by simp [hrows.len], by simpa using hrows.one, rfl, by simp, hrows.rows, fun i j x0 u0 h1 h2 => hrows.rel i j x0 u0 h1 (by simpa using h2)⟩
  · have := Ar.sl (M := M) (ι := upd ι s.nx ⟨some w.heap.size, x.toNat, z.length⟩) s.nx 0 x.toNat x.toNat w.heap.size x.toNat z.length (upd_at _ _) (Nat.le_refl _) (by omega) (by
      simp [maxLen]; omega)
    simpa using this
end
end Go.Cap
namespace Go.Cap
open Go
section
variable {P : Program}
def News (w : World) (yv : Value) (k : Nat) (news : List Value) : Prop :=
  (yv = .slice none 0 0 ∧ k = 0) ∨ ∃ a' c', yv = .slice (some a') k c' ∧ ∀ (j : Nat) v, news[j]? = some v → w.cell? (a'.add j) = some v
theorem run_append_room' (w : World) (t ty e : TypeId) (i : TypeInfo) (ht : P.underlying t = some (.slice e)) (hi : P.info? e = some i) (ad : Option Addr) (n cp : Nat) (yv : Value) (k : Nat) (news : List Value)
    (hnl : news.length = k * i.size) (hy : News w yv k news) (hroom : n + k ≤ cp) (hk : ad = none → k = 0) :
    (Builtin.append_ #[t, t] ty #[.slice ad n cp, yv]).run P w =
      ((match ad with | some a => storeCells (a.add (n * i.size)) news | none => pure ()).run P w).andThen fun _ w' => .ok (.slice ad (n + k) cp) w' := by
  rcases hy with ⟨rfl, rfl⟩ | ⟨a', c', rfl, hc⟩
  · have : news = [] := List.eq_nil_of_length_eq_zero (by simpa using hnl)
    subst this
    cases ad <;> simp [Builtin.append_, run_underlying ht, sizeOf, typeInfo, hi, Builtin.lenOf, show n ≤ cp by omega, Builtin.firstCells, storeCells]
  · have hf := run_firstCells_some (P := P) w i.size k a' k c' news hnl hc
    cases ad with
    | none =>
      have hk0 := hk rfl
      subst hk0
      have : news = [] := List.eq_nil_of_length_eq_zero (by simpa using hnl)
      subst this
      simp [Builtin.append_, run_underlying ht, sizeOf, typeInfo, hi, Builtin.lenOf, show n ≤ cp by omega, hf]
    | some a => simp [Builtin.append_, run_underlying ht, sizeOf, typeInfo, hi, Builtin.lenOf, hroom, hf]
theorem run_append_grow' (w : World) (t ty e : TypeId) (i : TypeInfo) (z : Value) (ht : P.underlying t = some (.slice e)) (hi : P.info? e = some i) (hz : i.zero = some z) (ad : Option Addr) (n cp : Nat) (olds : List Value)
    (hol : olds.length = n * i.size) (holds : ∀ a, ad = some a → ∀ (j : Nat) v, olds[j]? = some v → w.cell? (a.add j) = some v) (hnil : ad = none → n = 0 ∧ cp = 0) (hncp : n ≤ cp)
    (yv : Value) (k : Nat) (news : List Value) (hnl : news.length = k * i.size) (hy : News w yv k news) (hgrow : cp < n + k) (hb0 : 0 < i.bytes) (hbytes : (n + k) * i.bytes ≤ 140737488355328) :
    ∃ C, n + k ≤ C ∧ C ≤ maxLen ∧ (Builtin.append_ #[t, t] ty #[.slice ad n cp, yv]).run P w =
      .ok (.slice (some ⟨w.heap.size, 0, none⟩) (n + k) C) (w.drew.alloc (.cells (olds.toArray ++ news.toArray ++ Builtin.zeroCells z.cells (C - (n + k))) e)) := by
  have h63 : n + k ≤ 140737488355328 := by
    have : n + k ≤ (n + k) * i.bytes := Nat.le_mul_of_pos_right _ hb0
    omega
  have hmax : n + k ≤ maxLen := by simp only [maxLen]; omega
  rcases hy with ⟨rfl, rfl⟩ | ⟨a', c', rfl, hc⟩
  · omega
  · refine ⟨grownCap w (n + k) cp e, grownCap_ge w _ _ _, grownCap_le_maxLen w _ _ _ hmax, ?_⟩
    cases ad with
    | none =>
      obtain ⟨rfl, rfl⟩ := hnil rfl
      have : olds = [] := List.eq_nil_of_length_eq_zero (by simpa using hol)
      subst this
      have := run_append_nil (P := P) w t ty e i z ht hi hz a' k c' news hnl hc (by omega) (by omega) (by simp only [Nat.zero_add] at hbytes; omega)
      simpa using this
    | some a =>
      exact run_append_grow (P := P) w t ty e i z ht hi hz a n cp olds hol (holds a rfl) a' k c' news hnl hc hgrow (by omega) (growslice_fits hgrow hbytes)
end
section
variable {c : Cx} {M : Mem} {ι : Nat → Option BI} {w : World} {s : St} {a : Act} {o : Oper} {K : St → Prop}
theorem newRows_spec {sz : Nat} {y : AV} {yv : Value} {p : Prop} {news : List (List RV)} (h : Sr c M ι s a w) (hy : Ar M ι y yv) (hn : newRows s.hp sz y = some (p, news)) (hp : p) :
    ∃ vs : List Value, RowRel M sz news vs ∧ News w yv news.length vs := by
  unfold newRows at hn
  split at hn
  · simp only [Option.some.injEq, Prod.mk.injEq] at hn
    obtain ⟨rfl, rfl⟩ := hn
    have := hy.rnil
    exact ⟨[], ⟨by simp, by simp, by simp, fun i j x u hx => by simp at hx⟩, .inl ⟨this, rfl⟩⟩
  · rename_i g L
    simp only [Option.some.injEq, Prod.mk.injEq] at hn
    obtain ⟨rfl, rfl⟩ := hn
    have main : ∀ (szr blk off cc : Nat) (arr : Array Value) (e' : TypeId) (f : Nat × Nat) (vals : Nat → Nat → Value), M blk = some (arr, e', f) → (∀ r ∈ L, r.length = szr) →
        (∀ i j, i < L.length → j < szr → arr[off + (i * szr + j)]? = some (vals i j)) → (∀ (i j : Nat) x, (L[i]?).bind (·[j]?) = some x → Rr M x (vals i j)) → yv = .slice (some ⟨blk, off, none⟩) L.length cc →
        ∃ vs : List Value, RowRel M sz L vs ∧ News w yv L.length vs := by
      intro szr blk off cc arr e' f vals hM hr ha hv hyv
      rcases Nat.eq_zero_or_pos L.length with h0 | h0
      · have : L = [] := List.eq_nil_of_length_eq_zero h0
        subst this
        exact ⟨[], ⟨by simp, by simp, by simp, fun i j x u hx => by simp at hx⟩, .inr ⟨_, _, hyv, fun j v hj => by simp at hj⟩⟩
      · have hszr : szr = sz := by rw [← hr _ (List.getElem_mem h0), hp _ (List.getElem_mem h0)]
        subst hszr
        have hg := h.wr.msub _ _ _ _ hM
        have hfit : szr = 0 ∨ off + L.length * szr ≤ arr.size := by
          rcases Nat.eq_zero_or_pos szr with h1 | h1
          · exact .inl h1
          · have := ha (L.length - 1) (szr - 1) (by omega) (by omega)
            have := (Array.getElem?_eq_some_iff.1 this).1
            have e1 : (L.length - 1) * szr + szr = L.length * szr := by rw [← Nat.succ_mul]; congr 1; omega
            exact .inr (by omega)
        obtain ⟨hl, hj⟩ : ((arr.toList.drop off).take (L.length * szr)).length = L.length * szr ∧ ∀ (j : Nat) v, ((arr.toList.drop off).take (L.length * szr))[j]? = some v → arr[off + j]? = some v := by
          rcases hfit with rfl | hfit
          · exact ⟨by simp, fun j v hj => by simp at hj⟩
          · exact arr_slice hfit
        have hrel : ∀ (i j : Nat) x u, (L[i]?).bind (·[j]?) = some x → ((arr.toList.drop off).take (L.length * szr))[i * szr + j]? = some u → Rr M x u := fun i j x u hx hu => by
          obtain ⟨b1, b2⟩ := row_at hr hx
          have h1 := hj _ _ hu
          rw [ha i j b1 b2] at h1
          cases h1; exact hv i j x hx
        refine ⟨_, ⟨hl, hr, fun u hu => ?_, hrel⟩, .inr ⟨_, _, hyv, fun j v hv' => by rw [Addr.add_lit, cell_at hg]; exact hj j v hv'⟩⟩
        obtain ⟨q, hq1, hq2⟩ := List.getElem_of_mem hu
        have hz : 0 < szr := by
          rcases Nat.eq_zero_or_pos szr with h1 | h1
          · subst h1; simp at hq1
          · exact h1
        have hqi : q / szr < L.length := by
          rw [Nat.div_lt_iff_lt_mul hz]; omega
        have hrow : (L[q / szr]).length = szr := hr _ (List.getElem_mem hqi)
        have hqj : q % szr < szr := Nat.mod_lt _ hz
        refine (hrel (q / szr) (q % szr) ((L[q / szr])[q % szr]'(by omega)) u ?_ ?_).one
        · rw [List.getElem?_eq_getElem hqi]; exact List.getElem?_eq_getElem (by omega)
        · rw [show q / szr * szr + q % szr = q from by rw [Nat.mul_comm]; exact Nat.div_add_mod q szr, ← hq2]; exact List.getElem?_eq_getElem hq1
    cases hy with
    | r _ _ hy =>
      cases hy with
      | emp ad cc hc hnil =>
        refine ⟨[], ⟨by simp, by simp, by simp, fun i j x u hx => by simp at hx⟩, ?_⟩
        cases ad with
        | none => exact .inl ⟨by rw [hnil rfl], rfl⟩
        | some ad => exact .inr ⟨_, _, rfl, fun j v hj => by simp at hj⟩
      | ro szr _ blk off cc arr e' f vals hM hl hc hr ha hvv => exact main szr blk off cc arr e' f vals hM hr ha hvv rfl
      | own szr _ g cc arr e' vals hM hl hc hr hss h1' ha hvv => exact main szr g 0 cc arr e' (0, 0) vals hM hr (by simpa using ha) hvv rfl
  · rename_i b st n
    split at hn
    · rename_i m' L hb
      split at hn
      · rename_i hm
        simp only [Option.some.injEq, Prod.mk.injEq] at hn
        obtain ⟨rfl, rfl⟩ := hn
        subst hm
        obtain ⟨bi, hbi, hBr⟩ := h.wr.heap b _ hb
        have hlen : ((L.drop st).take n).length = n := by simp; omega
        have hempty : n = 0 → ∀ (ad : Option Addr) (cc : Nat), yv = .slice ad 0 cc → (ad = none → cc = 0) → ∃ vs : List Value, RowRel M m' ((L.drop st).take n) vs ∧ News w yv ((L.drop st).take n).length vs := by
          intro hn0 ad cc hyv hcc
          subst hn0
          refine ⟨[], ⟨by simp, by simp, by simp, fun i j x u hx => by simp at hx⟩, ?_⟩
          rw [hlen]
          cases ad with
          | none => exact .inl ⟨by rw [hyv, hcc rfl], rfl⟩
          | some ad => exact .inr ⟨_, _, hyv, fun j v hj => by simp at hj⟩
        cases hy with
        | slv => exact hempty rfl none 0 rfl (fun _ => rfl)
        | sle _ _ ad bi' hι => exact hempty rfl ad 0 rfl (fun _ => rfl)
        | sl _ _ _ cc g cap sz0 hι hnc hcc hmx =>
          rw [hι] at hbi; cases hbi
          obtain ⟨hMg, arr, e', hg, hsz, hone, hm, hLc, hrow, hcs⟩ := hBr
          simp only at hm hsz hLc
          subst hm
          have hfit : st * m' + n * m' ≤ arr.size := by
            rw [hsz, ← Nat.add_mul]; exact Nat.mul_le_mul_right _ (by omega)
          obtain ⟨hl, hj⟩ := arr_slice (arr := arr) (off := st * m') (n := n * m') hfit
          refine ⟨_, ⟨by rw [hl, hlen], fun r hr => hrow r (List.mem_of_mem_drop (List.mem_of_mem_take hr)), fun u hu => hone u (List.mem_of_mem_drop (List.mem_of_mem_take hu)), fun i j x u hx hu => ?_⟩, .inr ⟨_, _, by rw [hlen], fun j v hv => by rw [Addr.add_lit, cell_at hg]; exact hj j v hv⟩⟩
          refine hcs (st + i) j x u ?_ ?_
          · rw [List.getElem?_take] at hx
            split at hx
            · rw [List.getElem?_drop] at hx; exact hx
            · cases hx
          · rw [Nat.add_mul, Nat.add_assoc]; exact hj _ _ hu
      · cases hn
    · cases hn
  · cases hn
end
end Go.Cap
namespace Go.Cap
open Go
section
variable {c : Cx} {M : Mem} {ι : Nat → Option BI} {w : World} {s : St} {a : Act} {o : Oper} {K : St → Prop}
theorem RowRel.append {sz : Nat} {L1 L2 : List (List RV)} {u1 u2 : List Value} (h1 : RowRel M sz L1 u1) (h2 : RowRel M sz L2 u2) : RowRel M sz (L1 ++ L2) (u1 ++ u2) := by
  have hrows : ∀ r ∈ L1 ++ L2, r.length = sz := fun r hr => by
    rcases List.mem_append.1 hr with hr | hr
    · exact h1.rows r hr
    · exact h2.rows r hr
  refine ⟨by simp [h1.len, h2.len, Nat.add_mul], hrows, fun u hu => ?_, fun i j x u hx hu => ?_⟩
  · rcases List.mem_append.1 hu with hu | hu
    · exact h1.one u hu
    · exact h2.one u hu
  · obtain ⟨b1, b2⟩ := row_at hrows hx
    rw [List.getElem?_append] at hx hu
    by_cases hi : i < L1.length
    · rw [if_pos hi] at hx
      rw [if_pos (by rw [h1.len]; exact idx_lt hi b2)] at hu
      exact h1.rel i j x u hx hu
    · rw [if_neg hi] at hx
      have hge : L1.length * sz ≤ i * sz := Nat.mul_le_mul_right _ (by omega)
      rw [if_neg (by rw [h1.len]; omega)] at hu
      refine h2.rel (i - L1.length) j x u hx ?_
      rw [← hu, h1.len, Nat.sub_mul]
      congr 1; omega
theorem Br.ofRow {g cap sz : Nat} {arr : Array Value} {e : TypeId} {L : List (List RV)} {us : List Value} (hM : M g = none) (hg : w.heap[g]? = some (.cells arr e (0, 0))) (hsz : arr.size = cap * sz) (hone : ∀ v ∈ arr.toList, v.oneCell' = true)
    (htake : arr.toList.take us.length = us) (hr : RowRel M sz L us) (hL : L.length ≤ cap) : Br M ι w ⟨some g, cap, sz⟩ (.row sz L) := by
  refine ⟨hM, arr, e, hg, hsz, hone, rfl, hL, hr.rows, fun i j x v hx hv => ?_⟩
  obtain ⟨b1, b2⟩ := row_at hr.rows hx
  refine hr.rel i j x v hx ?_
  rw [← htake, List.getElem?_take, if_pos (by rw [hr.len]; exact idx_lt b1 b2)]
  simpa using hv
theorem Br.prefixRow {g cap sz : Nat} {L : List (List RV)} (h : Br M ι w ⟨some g, cap, sz⟩ (.row sz L)) (n : Nat) (hn : n ≤ L.length) :
    ∃ arr e, M g = none ∧ w.heap[g]? = some (.cells arr e (0, 0)) ∧ arr.size = cap * sz ∧ (∀ v ∈ arr.toList, v.oneCell' = true) ∧ L.length ≤ cap ∧ RowRel M sz (L.take n) (arr.toList.take (n * sz)) := by
  obtain ⟨hM, arr, e, hg, hsz, hone, _, hL, hrow, hcs⟩ := h
  simp only at hsz hL
  refine ⟨arr, e, hM, hg, hsz, hone, hL, ?_, fun r hr => hrow r (List.mem_of_mem_take hr), fun u hu => hone u (List.mem_of_mem_take hu), fun i j x u hx hu => ?_⟩
  · have : n * sz ≤ arr.size := by rw [hsz]; exact Nat.mul_le_mul_right _ (by omega)
    simp; rw [Nat.min_eq_left hn]; exact Nat.min_eq_left this
  · rw [List.getElem?_take] at hx hu
    split at hx
    · split at hu
      · exact hcs i j x u hx (by simpa using hu)
      · cases hu
    · cases hx
structure ApOk (c : Cx) (o : Oper) (a : Act) (w : World) (M : Mem) (sz bytes : Nat) (news : List (List RV)) (xv : Value) where
  e : TypeId
  t : TypeId
  i : TypeInfo
  z : Value
  vs : List Value
  yv : Value
  ht : c.P.underlying t = some (.slice e)
  hi : c.P.info? e = some i
  hz : i.zero = some z
  hsz : i.size = sz
  hby : i.bytes = bytes
  hb0 : 0 < bytes
  h0 : 0 < sz
  hzc : z.cells.size = sz
  hz1 : ∀ v ∈ z.cells.toList, v.oneCell' = true
  hrel : RowRel M sz news vs
  hnews : News w yv news.length vs
  hrun : ∀ w', (execOp a.eval o).run c.P w' = ((Builtin.append_ #[t, t] o.type #[xv, yv]).run c.P w').andThen fun v w'' => .ok (.value v) w''
theorem zeroCells_one {z : Array Value} (hz1 : ∀ v ∈ z.toList, v.oneCell' = true) (k : Nat) : ∀ v ∈ (Builtin.zeroCells z k).toList, v.oneCell' = true := by
  intro v hv
  simp only [Builtin.zeroCells, Array.toList_map, List.mem_map] at hv
  obtain ⟨i, hi, rfl⟩ := hv
  simp only [Array.mem_toList_iff, Array.mem_range] at hi
  have hpos : 0 < z.size := by
    rcases Nat.eq_zero_or_pos z.size with h | h
    · rw [h] at hi; simp at hi
    · exact h
  have hlt : i % z.size < z.size := Nat.mod_lt _ hpos
  rw [getElem!_pos z _ hlt]
  exact hz1 _ (by simp)
theorem grown_ok {sz bytes : Nat} {news : List (List RV)} {xv : Value} (h : Sr c M ι s a w) (A : ApOk c o a w M sz bytes news xv) {L : List (List RV)} {olds : List Value} {ad : Option Addr} {n cp : Nat} (hx : xv = .slice ad n cp)
    (hold : RowRel M sz L olds) (hn : L.length = n) (holds : ∀ ad', ad = some ad' → ∀ (j : Nat) v, olds[j]? = some v → w.cell? (ad'.add j) = some v) (hnil : ad = none → n = 0 ∧ cp = 0) (hncp : n ≤ cp)
    (hgrow : cp < n + news.length) (hbytes : (n + news.length) * bytes ≤ 140737488355328) {ι' : Nat → Option BI} {sl' : List (Nat × AV)} {hp' : List (Nat × Blk)} {nx' b' d : Nat} (hd : some d = o.dst) (hdn : d < c.nt) (hw : Wr c M ι' hp' s.nx s.gs w) (hsl : Slots M ι' sl' a.tmps)
    (hb' : ι' b' = none) (hhp : hget hp' b' = none) (hnx : s.nx ≤ nx') (hbx : c.m ≤ b' ∧ b' < nx')
    (hK : K ⟨(d, .sl b' 0 (n + news.length)) :: sl', (b', .row sz (L ++ news)) :: hp', nx', s.gs⟩) : WpOk c o a w K := by
  subst hx
  have hol : olds.length = n * A.i.size := by rw [hold.len, hn, A.hsz]
  have hnl : A.vs.length = news.length * A.i.size := by rw [A.hrel.len, A.hsz]
  obtain ⟨C, hC1, hC2, hrun⟩ := run_append_grow' (P := c.P) w A.t o.type A.e A.i A.z A.ht A.hi A.hz ad n cp olds hol holds hnil hncp A.yv news.length A.vs hnl A.hnews hgrow (by rw [A.hby]; exact A.hb0) (by rw [A.hby]; exact hbytes)
  have hr : (execOp a.eval o).run c.P w = .ok (.value (.slice (some ⟨w.heap.size, 0, none⟩) (n + news.length) C)) (w.drew.alloc (.cells (olds.toArray ++ A.vs.toArray ++ Builtin.zeroCells A.z.cells (C - (n + news.length))) A.e)) := by
    rw [A.hrun, hrun]; rfl
  have hrel := hold.append A.hrel
  have hMn : M w.heap.size = none := h.wr.msub.none (Nat.le_refl _)
  have hadd := (hw.drew).add (w' := w.drew.alloc (.cells (olds.toArray ++ A.vs.toArray ++ Builtin.zeroCells A.z.cells (C - (n + news.length))) A.e)) (b := b') (g := w.heap.size) (nx' := nx') C sz (.row sz (L ++ news)) hb' hhp hnx hbx rfl rfl rfl (by simp)
    (fun g' hg' _ => heap_alloc_lt w.drew _ hg') hMn (.inl h.wr.kept.size)
    (fun i bi hi h1 h2 => by
      obtain ⟨blk, hblk⟩ := hget_ne_some hi
      obtain ⟨bi', k1, k2⟩ := hw.heap i blk hblk
      rw [h1] at k1; cases k1
      have := (k2.lt h2).1
      omega)
    (Br.ofRow (us := olds ++ A.vs) hMn (heap_alloc_at w.drew _) (by
        simp only [Array.size_append, List.size_toArray, size_zeroCells, A.hzc, hold.len, A.hrel.len, hn, ← Nat.add_mul]
        congr 1; omega)
      (fun v hv => by
        simp only [Array.toList_append, List.mem_append] at hv
        rcases hv with (hv | hv) | hv
        · exact hold.one v hv
        · exact A.hrel.one v hv
        · exact zeroCells_one A.hz1 _ v hv)
      (by simp only [Array.toList_append]; exact List.take_left) hrel (by simp; omega))
  refine WpOk.value hr hK (s' := ⟨(d, .sl b' 0 (n + news.length)) :: sl', (b', .row sz (L ++ news)) :: hp', nx', s.gs⟩) (ι' := upd ι' b' ⟨some w.heap.size, C, sz⟩) (M' := M) ?_
  rw [← hd]
  refine ⟨hadd, (hsl.mono (Mem.le_refl M) (upd_mono _ hb')).put ?_ (by rw [h.nt]; exact hdn), by simp [Act.put, h.nt], h.df⟩
  have := Ar.sl (M := M) (ι := upd ι' b' ⟨some w.heap.size, C, sz⟩) b' 0 (n + news.length) C w.heap.size C sz (upd_at _ _) hC1 (by omega) hC2
  simpa using this
theorem room_ok {sz bytes : Nat} {news : List (List RV)} {g cap b : Nat} {n : Nat} {L : List (List RV)} (h : Sr c M ι s a w) (A : ApOk c o a w M sz bytes news (.slice (some ⟨g, 0, none⟩) n cap))
    (hb : hget s.hp b = some (.row sz L)) (hι : ι b = some ⟨some g, cap, sz⟩) (hn : n ≤ L.length) (hroom : n + news.length ≤ cap) (hcm : cap ≤ maxLen)
    {nx' b' d : Nat} (hd : some d = o.dst) (hdn : d < c.nt) (hb' : del ι b b' = none) (hhp : hget (hdel (killH b s.hp) b) b' = none) (hnx : s.nx ≤ nx') (hbx : c.m ≤ b' ∧ b' < nx')
    (hK : K ⟨(d, .sl b' 0 (n + news.length)) :: killS b s.sl, (b', .row sz (L.take n ++ news)) :: hdel (killH b s.hp) b, nx', s.gs⟩) : WpOk c o a w K := by
  obtain ⟨bi, hbi, hBr⟩ := h.wr.heap b _ hb
  rw [hι] at hbi; cases hbi
  obtain ⟨arr, e', hMg, hg, hsz, hone, hLc, hold⟩ := hBr.prefixRow n hn
  have hfit : n * sz + A.vs.length ≤ arr.size := by
    rw [hsz, A.hrel.len, ← Nat.add_mul]; exact Nat.mul_le_mul_right _ hroom
  have hnl : A.vs.length = news.length * A.i.size := by rw [A.hrel.len, A.hsz]
  have hst := run_storeCells_at c.P g (n * sz) e' A.vs 0 arr w hg (by simpa using hfit) A.hrel.one
  simp only [Nat.add_zero] at hst
  have hr : (execOp a.eval o).run c.P w = .ok (.value (.slice (some ⟨g, 0, none⟩) (n + news.length) cap)) (w.setRow g (arr.toList.take (n * sz) ++ A.vs ++ arr.toList.drop (n * sz + A.vs.length)).toArray) := by
    rw [A.hrun, run_append_room' (P := c.P) w A.t o.type A.e A.i A.ht A.hi (some ⟨g, 0, none⟩) n cap A.yv news.length A.vs hnl A.hnews hroom (fun h => by cases h)]
    simp only [A.hsz, Addr.add_lit, Nat.zero_add, hst, Result.andThen_ok]
  have hf := h.wr.forget b
  have hrel := hold.append A.hrel
  have hadd := hf.add (w' := w.setRow g (arr.toList.take (n * sz) ++ A.vs ++ arr.toList.drop (n * sz + A.vs.length)).toArray) (b := b') (g := g) (nx' := nx') cap sz (.row sz (L.take n ++ news)) hb' hhp hnx hbx rfl rfl rfl (by simp)
    (fun g' _ hne => setRow_other w g g' _ hne) hMg (h.wr.own b _ g (by rw [hb]; simp) hι rfl)
    (fun i bi hi h1 h2 => by
      rw [hget_hdel, hget_killH] at hi
      by_cases hib : i = b
      · simp [hib] at hi
      · rw [del_ne hib] at h1
        refine hib (h.wr.inj i b bi _ g (fun h0 => by simp [hib, h0] at hi) (by rw [hb]; simp) h1 hι h2 rfl))
    (Br.ofRow (us := arr.toList.take (n * sz) ++ A.vs) hMg (setRow_heap w g arr _ e' _ hg) (by
        simp only [List.size_toArray, List.length_append, List.length_take, List.length_drop, Array.length_toList]; omega)
      (fun v hv => by
        simp only [List.mem_append] at hv
        rcases hv with (hv | hv) | hv
        · exact hone v (List.mem_of_mem_take hv)
        · exact A.hrel.one v hv
        · exact hone v (List.mem_of_mem_drop hv))
      (by exact List.take_left) hrel (by simp; omega))
  refine WpOk.value hr hK (s' := ⟨(d, .sl b' 0 (n + news.length)) :: killS b s.sl, (b', .row sz (L.take n ++ news)) :: hdel (killH b s.hp) b, nx', s.gs⟩) (ι' := upd (del ι b) b' ⟨some g, cap, sz⟩) (M' := M) ?_
  rw [← hd]
  refine ⟨hadd, ((h.slots.kill b).mono (Mem.le_refl M) (upd_mono _ hb')).put ?_ (by rw [h.nt]; exact hdn), by simp [Act.put, h.nt], h.df⟩
  have := Ar.sl (M := M) (ι := upd (del ι b) b' ⟨some g, cap, sz⟩) b' 0 (n + news.length) cap g cap sz (upd_at _ _) hroom (by omega) hcm
  simpa using this
end
end Go.Cap
namespace Go.Cap
open Go
section
variable {c : Cx} {M : Mem} {ι : Nat → Option BI} {w : World} {s : St} {a : Act} {o : Oper} {K : St → Prop}
theorem same_ok {sz bytes : Nat} {news : List (List RV)} {ad : Option Addr} {n cp : Nat} (h : Sr c M ι s a w) (A : ApOk c o a w M sz bytes news (.slice ad n cp)) (hk : news = []) (hncp : n ≤ cp)
    {ι' : Nat → Option BI} {sl' : List (Nat × AV)} {hp' : List (Nat × Blk)} {nx' d : Nat} {v : AV} (hd : some d = o.dst) (hdn : d < c.nt) (hw : Wr c M ι' hp' nx' s.gs w) (hsl : Slots M ι' sl' a.tmps) (hv : Ar M ι' v (.slice ad n cp))
    (hK : K ⟨(d, v) :: sl', hp', nx', s.gs⟩) : WpOk c o a w K := by
  have hvs : A.vs = [] := List.eq_nil_of_length_eq_zero (by rw [A.hrel.len, hk]; simp)
  have hnl : A.vs.length = news.length * A.i.size := by rw [A.hrel.len, A.hsz]
  have hr : (execOp a.eval o).run c.P w = .ok (.value (.slice ad n cp)) w := by
    rw [A.hrun, run_append_room' (P := c.P) w A.t o.type A.e A.i A.ht A.hi ad n cp A.yv news.length A.vs hnl A.hnews (by rw [hk]; simpa using hncp) (fun _ => by rw [hk]; rfl), hvs]
    have e0 : n + news.length = n := by rw [hk]; rfl
    rw [e0]
    cases ad <;> rfl
  refine WpOk.value hr hK (s' := ⟨(d, v) :: sl', hp', nx', s.gs⟩) (ι' := ι') (M' := M) ?_
  rw [← hd]
  exact ⟨hw, hsl.put hv (by rw [h.nt]; exact hdn), by simp [Act.put, h.nt], h.df⟩
theorem o_ap {d sz bytes : Nat} {x y : Opd} {x' y' : Operand} {t : TypeId} {cl : Go.Call} (h : Sr c M ι s a w) (ho : o.op = .call cl) (hcal : cl.callee = .builtin .append) (hargs : cl.args.toList = [x', y']) (hat : cl.argTypes.toList = [t, t])
    (hd : some d = o.dst) (hdn : d < c.nt) (hx : opdC x x' = true) (hy : opdC y y' = true) {e : TypeId} (ht : isSlice c.P t = some e) (hsz : sizeIs c.P e sz = true) (hby : bytesIs c.P e bytes = true) (hb0 : 0 < bytes) (h0 : 0 < sz)
    {i : TypeInfo} {z : Value} (hi : c.P.info? e = some i) (hz : i.zero = some z) (hzc : z.cells.size = sz) (hz1 : z.cells.all Value.oneCell' = true)
    {p : Prop} {news : List (List RV)} (hn : newRows s.hp sz (y.ev s.sl) = some (p, news))
    (hcase : (∃ b n L, x.ev s.sl = .sl b 0 n ∧ hget s.hp b = some (.row sz L) ∧ (p ∧ n ≤ L.length ∧ (n + news.length) * bytes ≤ 140737488355328) ∧
        ∃ b' nx', ((b' = s.nx ∧ nx' = s.nx + 1) ∨ (b' = b ∧ nx' = s.nx ∧ c.m ≤ b)) ∧ K ⟨(d, .sl b' 0 (n + news.length)) :: killS b s.sl, (b', .row sz (L.take n ++ news)) :: hdel (killH b s.hp) b, nx', s.gs⟩) ∨
      (x.ev s.sl = .r .nil ∧ (p ∧ news.length * bytes ≤ 140737488355328) ∧ K ⟨(d, .sl s.nx 0 news.length) :: s.sl, (s.nx, .row sz news) :: s.hp, s.nx + 1, s.gs⟩)) : WpOk c o a w K := by
  have hu := isSlice_spec ht
  obtain ⟨i', hi', hs2⟩ := sizeIs_spec hsz
  rw [hi] at hi'; cases hi'
  obtain ⟨i', hi', hb2⟩ := bytesIs_spec hby
  rw [hi] at hi'; cases hi'
  have har := opdC_spec (M := M) (ι := ι) h.slots hx
  have hay := opdC_spec (M := M) (ι := ι) h.slots hy
  have hargs' : cl.args = #[x', y'] := Array.toList_inj.1 hargs
  have hat' : cl.argTypes = #[t, t] := Array.toList_inj.1 hat
  have hrun : ∀ w', (execOp a.eval o).run c.P w' = ((Builtin.append_ #[t, t] o.type #[a.eval x', a.eval y']).run c.P w').andThen fun v w'' => .ok (.value v) w'' := by
    intro w'
    simp only [execOp, ho, resolve, hcal, hargs', hat', invoke, builtin, Sem.run_bind, Sem.run_pure, Result.andThen_ok, List.map_toArray, List.map_cons, List.map_nil]
  have hp : p := by rcases hcase with ⟨_, _, _, _, _, hp, _⟩ | ⟨_, hp, _⟩; exact hp.1; exact hp.1
  obtain ⟨vs, hrel, hnews⟩ := newRows_spec h hay hn hp
  have A : ∀ xv, a.eval x' = xv → ApOk c o a w M sz bytes news xv := fun xv hxv =>
    { e := e, t := t, i := i, z := z, vs := vs, yv := a.eval y', ht := hu, hi := hi, hz := hz, hsz := hs2, hby := hb2, hb0 := hb0, h0 := h0, hzc := hzc, hz1 := fun v hv => (Array.all_eq_true_iff_forall_mem.1 hz1) v (by simpa using hv), hrel := hrel, hnews := hnews, hrun := by rw [← hxv]; exact hrun }
  have empRel : RowRel M sz [] [] := ⟨by simp, by simp, by simp, fun i j x u hx => by simp at hx⟩
  generalize hv : a.eval x' = v at har
  rcases hcase with ⟨b, n, L, hxe, hb, ⟨_, hnL, hbytes⟩, b', nx', hbn, hK⟩ | ⟨hxe, ⟨_, hbytes⟩, hK⟩
  · rw [hxe] at har
    obtain ⟨bi, hbi, hBr⟩ := h.wr.heap b _ hb
    have hbx0 : b < s.nx := by
      rcases Nat.lt_or_ge b s.nx with h1 | h1
      · exact h1
      · rw [h.wr.fresh b h1] at hbi; cases hbi
    have hdn' : del ι b b' = none ∧ hget (hdel (killH b s.hp) b) b' = none ∧ s.nx ≤ nx' ∧ c.m ≤ b' ∧ b' < nx' := by
      have hmle := h.wr.mle
      rcases hbn with ⟨rfl, rfl⟩ | ⟨rfl, rfl, hmb⟩
      · refine ⟨by rw [del_ne (by omega)]; exact h.wr.fresh _ (Nat.le_refl _), ?_, by omega, by omega⟩
        rw [hget_hdel, hget_killH, if_neg (by omega)]
        cases hg : hget s.hp s.nx with
        | none => rfl
        | some blk =>
          obtain ⟨bi', k1, _⟩ := h.wr.heap _ _ hg
          rw [h.wr.fresh _ (Nat.le_refl _)] at k1; cases k1
      · exact ⟨del_at _, by rw [hget_hdel, if_pos rfl], Nat.le_refl _, hmb, hbx0⟩
    obtain ⟨hb1, hb2', hnx, hbx⟩ := hdn'
    have again : n = 0 → news = [] → ∀ v0, (∀ ι0 : Nat → Option BI, ι0 b' = some bi → Ar M ι0 (.sl b' 0 0) v0) → (∃ ad cp, v0 = .slice ad 0 cp) → v = v0 → WpOk c o a w K := by
      intro hn0 hk v0 hval hform hvv
      subst hvv
      obtain ⟨ad, cp, rfl⟩ := hform
      subst hn0; subst hk
      have hwr : Wr c M (upd (del ι b) b' bi) ((b', .row sz []) :: hdel (killH b s.hp) b) nx' s.gs w := by
        have hf := h.wr.forget b
        obtain ⟨g, cap, sz0⟩ := bi
        cases g with
        | none =>
          have := hf.addNil (b := b') (nx' := nx') sz hb1 hnx hbx
          refine ⟨this.msub, this.m0, this.mnew, fun i blk hi' => ?_, fun i j bi bj g' hi' hj h1 h2 h3 h4 => ?_, fun i bi g' hi' h1 h2 => ?_, this.kept, fun i hi' => ?_, this.mle, fun i x hi' hx => hf.anc i x hi' (by rwa [upd_ne _ (by omega)] at hx), this.gsn, this.gsm⟩
          · by_cases hib : i = b'
            · subst hib
              simp only [hget, if_true, Option.some.injEq] at hi'
              subst hi'
              exact ⟨_, upd_at _ _, ⟨sz, rfl⟩⟩
            · have hold : hget (hdel (killH b s.hp) b) i = some blk := by
                simp only [hget] at hi'
                rwa [if_neg (Ne.symm hib)] at hi'
              obtain ⟨bi', k1, k2⟩ := hf.heap i blk hold
              exact ⟨bi', by rw [upd_ne _ hib]; exact k1, k2.ext (Mem.le_refl M) (upd_mono _ hb1) (fun _ _ => rfl) (fun g' hg' => (k2.lt hg').2)⟩
          · by_cases e1 : i = b'
            · subst e1; rw [upd_at] at h1; cases h1; cases h3
            · by_cases e2 : j = b'
              · subst e2; rw [upd_at] at h2; cases h2; cases h4
              · rw [upd_ne _ e1] at h1; rw [upd_ne _ e2] at h2
                refine hf.inj i j bi bj g' ?_ ?_ h1 h2 h3 h4
                · simp only [hget] at hi'; rwa [if_neg (Ne.symm e1)] at hi'
                · simp only [hget] at hj; rwa [if_neg (Ne.symm e2)] at hj
          · by_cases e1 : i = b'
            · subst e1; rw [upd_at] at h1; cases h1; cases h2
            · rw [upd_ne _ e1] at h1
              refine hf.own i bi g' ?_ h1 h2
              simp only [hget] at hi'; rwa [if_neg (Ne.symm e1)] at hi'
          · rw [upd_ne _ (by omega)]; exact hf.fresh i (by omega)
        | some g =>
          have hm : sz = sz0 := by obtain ⟨_, arr, e', _, _, _, hm, _⟩ := hBr; exact hm
          subst hm
          obtain ⟨arr, e', hMg, hg, hsz', hone, hLc, hold⟩ := hBr.prefixRow 0 (Nat.zero_le _)
          refine hf.add (w' := w) (g := g) cap sz (.row sz []) hb1 hb2' hnx hbx rfl rfl rfl (Nat.le_refl _) (fun _ _ _ => rfl) hMg (h.wr.own b _ g (by rw [hb]; simp) hbi rfl) (fun i bi hi' h1 h2 => ?_) ?_
          · rw [hget_hdel, hget_killH] at hi'
            by_cases hib : i = b
            · simp [hib] at hi'
            · rw [del_ne hib] at h1
              exact hib (h.wr.inj i b bi _ g (fun h0 => by simp [hib, h0] at hi') (by rw [hb]; simp) h1 hbi h2 rfl)
          · exact Br.ofRow (us := []) hMg hg hsz' hone (by simp) empRel (Nat.zero_le _)
      have hcp : 0 ≤ cp := Nat.zero_le _
      refine same_ok h (A _ hv) rfl hcp hd hdn hwr ((h.slots.kill b).mono (Mem.le_refl M) (upd_mono _ hb1)) (hval _ (upd_at _ _)) ?_
      simpa using hK
    cases har with
    | slv _ cap sz0 hι =>
      rw [hι] at hbi; cases hbi
      by_cases hk : news = []
      · exact again rfl hk _ (fun ι0 h0 => .slv b' cap sz0 h0) ⟨none, 0, rfl⟩ rfl
      · have hk1 : 0 < news.length := List.length_pos_iff.2 hk
        refine grown_ok h (A _ hv) rfl empRel rfl (fun _ h => by cases h) (fun _ => ⟨rfl, rfl⟩) (Nat.le_refl _) (by omega) hbytes hd hdn (h.wr.forget b) (h.slots.kill b) hb1 hb2' hnx hbx ?_
        simpa using hK
    | sle _ _ ad bi' hι =>
      rw [hι] at hbi; cases hbi
      by_cases hk : news = []
      · exact again rfl hk _ (fun ι0 h0 => .sle b' 0 ad bi h0) ⟨ad, 0, rfl⟩ rfl
      · have hk1 : 0 < news.length := List.length_pos_iff.2 hk
        refine grown_ok h (A _ hv) rfl empRel rfl (fun _ _ j v hj => by simp at hj) (fun _ => ⟨rfl, rfl⟩) (Nat.le_refl _) (by omega) hbytes hd hdn (h.wr.forget b) (h.slots.kill b) hb1 hb2' hnx hbx ?_
        simpa using hK
    | sl _ _ _ cc g cap sz0 hι hnc hcc hmx =>
      rw [hι] at hbi; cases hbi
      have hm : sz = sz0 := by obtain ⟨_, arr, e', _, _, _, hm, _⟩ := hBr; exact hm
      subst hm
      have hcc' : cc = cap := by omega
      subst hcc'
      rw [Nat.zero_mul] at hv
      by_cases hroom : n + news.length ≤ cc
      · exact room_ok h (A _ hv) hb hι hnL hroom hmx hd hdn hb1 hb2' hnx hbx hK
      · obtain ⟨arr, e', hMg, hg, hsz', hone, hLc, hold⟩ := hBr.prefixRow n hnL
        refine grown_ok h (A _ hv) rfl hold (by simp; omega) (fun ad' had j v hj => ?_) (fun h => by cases h) hnc (by omega) hbytes hd hdn (h.wr.forget b) (h.slots.kill b) hb1 hb2' hnx hbx hK
        cases had
        rw [Addr.add_lit, cell_at hg, Nat.zero_add]
        rw [List.getElem?_take] at hj
        split at hj
        · simpa using hj
        · cases hj
  · rw [hxe] at har
    have := har.rnil
    subst this
    have hnxn := h.wr.fresh s.nx (Nat.le_refl _)
    have hhpn : hget s.hp s.nx = none := by
      cases hg : hget s.hp s.nx with
      | none => rfl
      | some blk =>
        obtain ⟨bi', k1, _⟩ := h.wr.heap _ _ hg
        rw [hnxn] at k1; cases k1
    by_cases hk : news = []
    · subst hk
      refine same_ok h (A _ hv) rfl (Nat.le_refl _) hd hdn (h.wr.addNil sz hnxn (Nat.le_succ _) ⟨h.wr.mle, Nat.lt_succ_self _⟩) (h.slots.mono (Mem.le_refl M) (upd_mono _ hnxn)) (.slv s.nx 0 sz (upd_at _ _)) ?_
      simpa using hK
    · have hk1 : 0 < news.length := List.length_pos_iff.2 hk
      refine grown_ok h (A _ hv) rfl empRel rfl (fun _ h => by cases h) (fun _ => ⟨rfl, rfl⟩) (Nat.le_refl _) (by omega) (by simpa using hbytes) hd hdn h.wr h.slots hnxn hhpn (Nat.le_succ _) ⟨h.wr.mle, Nat.lt_succ_self _⟩ ?_
      simpa using hK
end
end Go.Cap
namespace Go.Cap
open Go
section
variable {c : Cx} {M : Mem} {ι : Nat → Option BI} {w : World} {s : St} {a : Act} {o : Oper} {K : St → Prop}
theorem quiet_ok {q : QR} {d : Nat} (h : Sr c M ι s a w) (hd : some d = o.dst) (hdn : d < c.nt) (hq : QS c.P o a w M ι q) (he : goQ q d s K) : WpOk c o a w K := by
  unfold goQ at he
  cases q with
  | val v =>
    obtain ⟨u, hu, hr⟩ := hq
    exact WpOk.value (hu w (Ext.refl w)) he (hd ▸ h.put hr hdn)
  | need p v =>
    obtain ⟨u, hu, hr⟩ := hq he.1
    exact WpOk.value (hu w (Ext.refl w)) he.2 (hd ▸ h.put hr hdn)
  | asm p v =>
    obtain ⟨hp, u, hu, hr⟩ := hq
    exact WpOk.value (hu w (Ext.refl w)) (he hp) (hd ▸ h.put hr hdn)
  | bad => exact he.elim
theorem callable_spec {P : Program} {f : FuncId} (h : callableC P f = true) (args : Array Value) (w : World) : (callFunc f args).run P w = .ok (.enter f args) w := by
  unfold callableC at h
  split at h
  · rename_i fn hfn
    simp only [Bool.and_eq_true, Bool.not_eq_true'] at h
    obtain ⟨h1, h2⟩ := h
    have h3 : fn.body.isNone = false := by cases hb : fn.body <;> simp [hb] at h1 ⊢
    simp only [callFunc, Sem.run_bind, run_program, Result.andThen_ok, hfn, h2, h3, Bool.false_eq_true, if_false, Sem.run_pure]
  · cases h
theorem call_ok {f : Nat} {args : List AV} {vs : List Value} (h : Sr c M ι s a w) (hdn : ∀ d, o.dst = some d → d < c.nt) (hrun : (execOp a.eval o).run c.P w = .ok (.enter f vs.toArray) w) (hargs : Args M ι args vs)
    (hc : Call c f args s (fun r s' => K (putO s' o.dst r))) : WpOk c o a w K := by
  intro next Q hn
  unfold Oper.wp
  rw [hrun]
  refine (hc M ι w h.wr vs hargs).mono fun e w' he => ?_
  obtain ⟨v, r, hp', nx', gs', M', ι', rfl, hr, hK, hw, hM, hi⟩ := he
  have hs : Sr c M' ι' ⟨s.sl, hp', nx', gs'⟩ a w' := ⟨hw, h.slots.mono hM hi, h.nt, h.df⟩
  show next (a.put o.dst v) w'
  refine hn (putO ⟨s.sl, hp', nx', gs'⟩ o.dst r) M' ι' _ _ hK ?_
  cases hd : o.dst with
  | none => exact hs
  | some d => exact hs.put hr (hdn d hd)
theorem ev1_sound {p : POp} (h : Sr c M ι s a w) (hc : chk c.P p o = true) (hdn : ∀ d, p.dst = some d → d < c.nt) (hnk : ∀ l, p ≠ .kp l) (he : ev1 c p s K) : WpOk c o a w K := by
  simp only [chk, Bool.and_eq_true, decide_eq_true_eq] at hc
  obtain ⟨hd, hop⟩ := hc
  have hqs : QS c.P o a w M ι (qv p s.sl s.hp) := qv_sound h.slots h.wr.msub h.wr.heap hop
  have quiet : ∀ d, p.dst = some d → goQ (qv p s.sl s.hp) d s K → WpOk c o a w K := fun d hpd hg => quiet_ok h (by rw [← hd, hpd]) (hdn d hpd) hqs hg
  cases p with
  | kp l => exact absurd rfl (hnk l)
  | al d z =>
    cases ho : o.op <;> rw [ho] at hop <;> simp only [chkOp, Bool.false_eq_true] at hop
    exact o_al h ho hd (hdn d rfl) hop he
  | bx d x =>
    cases ho : o.op <;> rw [ho] at hop <;> simp only [chkOp, Bool.false_eq_true] at hop
    simp only [ev1] at he
    split at he
    · rename_i cs hcs
      exact o_bx h ho hop hd (hdn d rfl) hcs he
    · exact he.elim
  | bs d sz len z ps =>
    cases ho : o.op <;> rw [ho] at hop <;> simp only [chkOp, Bool.false_eq_true] at hop
    split at hop
    case h_2 => cases hop
    rename_i e hte
    simp only [Bool.and_eq_true, decide_eq_true_eq] at hop
    obtain ⟨⟨⟨⟨⟨rfl, h2⟩, h3⟩, h4⟩, h5⟩, h6⟩ := hop
    simp only [ev1] at he
    split at he
    · rename_i L hL
      exact o_bs h ho hd (hdn d rfl) hte h2 h3 h4 h5 h6 hL he
    · exact he.elim
  | st sz ax x =>
    cases ho : o.op <;> rw [ho] at hop <;> simp only [chkOp, Bool.false_eq_true] at hop
    simp only [Bool.and_eq_true] at hop
    obtain ⟨⟨h1, h2⟩, h3⟩ := hop
    simp only [ev1] at he
    split at he
    case h_2 => exact he.elim
    rename_i b i f vs hax hxc
    obtain ⟨hl, he⟩ := he
    split at he
    · rename_i cs hb
      exact o_st h ho h1 h2 h3 hd.symm hax hxc hl hb (.inl ⟨cs, rfl, he.1.1, he.1.2, he.2⟩)
    · rename_i n L hb
      split at he
      · rename_i rs hrs
        obtain ⟨⟨hi, hf⟩, hK⟩ := he
        refine o_st h ho h1 h2 h3 hd.symm hax hxc hl hb (.inr ⟨n, L, rs, _, rfl, hrs, hi, hf, ?_, hK⟩)
        obtain ⟨bi, _, hBr⟩ := h.wr.heap b _ hb
        have hrow : (L.getD i []).length = n := by
          have hmem : L.getD i [] ∈ L := by
            rw [List.getD_eq_getElem?_getD, List.getElem?_eq_getElem hi]; exact List.getElem_mem hi
          unfold Br at hBr
          cases hg : bi.g with
          | none =>
            rw [hg] at hBr
            obtain ⟨sz', h0⟩ := hBr
            injection h0 with _ h0
            rw [h0] at hi; simp at hi
          | some g =>
            rw [hg] at hBr
            obtain ⟨_, arr, e, _, _, _, _, _, hr, _⟩ := hBr
            exact hr _ hmem
        have hrl : rs.length = sz := by rw [← hl, rvs_spec hrs]; simp
        split
        · rename_i hsz
          have hf0 : f = 0 := by omega
          subst hf0
          rw [List.take_zero, List.nil_append, List.drop_eq_nil_of_le (by omega), List.append_nil]
        · exact layR_eq _ _ _ (by omega)
      · exact he.elim
    · exact he.elim
  | ap d sz bytes x y =>
    cases ho : o.op <;> rw [ho] at hop <;> simp only [chkOp, Bool.false_eq_true] at hop
    rename_i cl
    split at hop
    case h_2 => cases hop
    rename_i x' y' t u hcal hargs hat
    simp only [Bool.and_eq_true, decide_eq_true_eq] at hop
    obtain ⟨⟨⟨h1, h2⟩, rfl⟩, hop⟩ := hop
    split at hop
    case h_2 => cases hop
    rename_i e hte
    simp only [Bool.and_eq_true, decide_eq_true_eq] at hop
    obtain ⟨⟨⟨⟨h3, h4⟩, h5⟩, h6⟩, hop⟩ := hop
    split at hop
    case h_2 => cases hop
    rename_i i hi
    split at hop
    case h_2 => cases hop
    rename_i z hz
    simp only [Bool.and_eq_true, decide_eq_true_eq] at hop
    simp only [ev1] at he
    split at he
    case h_2 => exact he.elim
    rename_i p news hnews
    refine o_ap h ho hcal hargs hat hd (hdn d rfl) h1 h2 hte h3 h4 h5 h6 hi hz hop.1 hop.2 hnews ?_
    split at he
    · rename_i b st n hx
      obtain ⟨rfl, he⟩ := he
      split at he
      · rename_i n' L hb
        obtain ⟨rfl, hc, hK⟩ := he
        refine .inl ⟨b, n, L, hx, hb, hc, ?_⟩
        split at hK
        · exact ⟨s.nx, s.nx + 1, .inl ⟨rfl, rfl⟩, hK⟩
        · rename_i hnm
          exact ⟨b, s.nx, .inr ⟨rfl, rfl, Nat.le_of_not_lt hnm⟩, hK⟩
      · exact he.elim
    · rename_i hx
      exact .inr ⟨hx, he.1, he.2⟩
    · exact he.elim
  | mk d sz bytes z n =>
    cases ho : o.op <;> rw [ho] at hop <;> simp only [chkOp, Bool.false_eq_true] at hop
    simp only [Bool.and_eq_true] at hop
    obtain ⟨⟨h1, h2⟩, hop⟩ := hop
    split at hop
    case h_2 => cases hop
    rename_i e hte
    simp only [Bool.and_eq_true, decide_eq_true_eq] at hop
    obtain ⟨⟨⟨⟨h3, h4⟩, h5⟩, h6⟩, h7⟩ := hop
    simp only [ev1] at he
    split at he
    case h_2 => exact he.elim
    rename_i k x hn
    exact o_mk h ho hd (hdn d rfl) h1 h2 hte h3 h4 h5 h6 h7 hn he.1.1 he.1.2 he.2
  | ca d f args =>
    cases ho : o.op <;> rw [ho] at hop <;> simp only [chkOp, Bool.false_eq_true] at hop
    rename_i cl
    split at hop
    case h_2 => cases hop
    rename_i f' hcal
    simp only [Bool.and_eq_true, decide_eq_true_eq] at hop
    obtain ⟨⟨rfl, h1⟩, h2⟩ := hop
    obtain ⟨hl, hr⟩ := opdsC_spec (M := M) (ι := ι) h.slots h1
    have hd' : d = o.dst := hd
    subst hd'
    simp only [ev1] at he
    refine call_ok (f := f) (args := args.map fun x => x.ev s.sl) (vs := cl.args.toList.map a.eval) h hdn ?_ ⟨by simp at hl ⊢; exact hl, hr⟩ he
    have he1 : (cl.args.toList.map a.eval).toArray = cl.args.map a.eval := by apply Array.toList_inj.1; simp
    rw [he1]
    simp only [execOp, ho, resolve, hcal, Act.eval, Deferred.ofValue, invoke, Sem.run_bind, Sem.run_pure, Result.andThen_ok, Array.empty_append, Array.append_empty]
    exact callable_spec h2 _ _
  | cf d f x args =>
    cases ho : o.op <;> rw [ho] at hop <;> simp only [chkOp, Bool.false_eq_true] at hop
    rename_i cl
    split at hop
    case h_2 => cases hop
    rename_i y hcal
    simp only [Bool.and_eq_true] at hop
    obtain ⟨⟨h0, h1⟩, h2⟩ := hop
    obtain ⟨hl, hr⟩ := opdsC_spec (M := M) (ι := ι) h.slots h1
    have har := opdC_spec (M := M) (ι := ι) h.slots h0
    have hd' : d = o.dst := hd
    subst hd'
    simp only [ev1] at he
    split at he
    case h_2 => exact he.elim
    rename_i f0 caps hx
    obtain ⟨rfl, he⟩ := he
    rw [hx] at har
    generalize hv : a.eval y = v at har
    cases har with
    | fn _ _ us hul hur =>
      refine call_ok (f := f0) (args := (args.map fun x => x.ev s.sl) ++ caps) (vs := cl.args.toList.map a.eval ++ us) h hdn ?_ ⟨by simp at hl ⊢; omega, fun j cc v hc hv' => ?_⟩ he
      · have he1 : (cl.args.toList.map a.eval ++ us).toArray = cl.args.map a.eval ++ us.toArray := by apply Array.toList_inj.1; simp
        rw [he1]
        simp only [execOp, ho, resolve, hcal, hv, Deferred.ofValue, invoke, Sem.run_bind, Sem.run_pure, Result.andThen_ok, Array.empty_append]
        exact callable_spec h2 _ _
      · rw [List.getElem?_append] at hc hv'
        have hlen : (args.map fun x => x.ev s.sl).length = (cl.args.toList.map a.eval).length := by simp at hl ⊢; omega
        rw [hlen] at hc
        split at hc
        · rename_i hj
          rw [if_pos hj] at hv'
          exact hr j cc v hc hv'
        · rename_i hj
          rw [if_neg hj] at hv'
          exact hur _ cc v hc hv'
  | mv d x => exact quiet d rfl he
  | pk d c a b => exact quiet d rfl he
  | bd d z ps => exact quiet d rfl he
  | ld d sz a => exact quiet d rfl he
  | bi d op x y => exact quiet d rfl he
  | bb d neg x y => exact quiet d rfl he
  | eqs d neg ks x y => exact quiet d rfl he
  | eqn d neg x => exact quiet d rfl he
  | un d op x => exact quiet d rfl he
  | cv d k x => exact quiet d rfl he
  | cs d x => exact quiet d rfl he
  | fa d off x => exact quiet d rfl he
  | ia d sz x i => exact quiet d rfl he
  | iA d len sz x i => exact quiet d rfl he
  | ix d x i => exact quiet d rfl he
  | ex d x i => exact quiet d rfl he
  | ln d x => exact quiet d rfl he
  | lS d x => exact quiet d rfl he
  | mn d x y => exact quiet d rfl he
  | mx d x y => exact quiet d rfl he
  | sc d sz x lo hi => exact quiet d rfl he
  | sS d x lo hi => exact quiet d rfl he
  | mf d f caps => exact quiet d rfl he
  | nc d x => exact quiet d rfl he
  | fd d off sz x => exact quiet d rfl he
  | iv d len x i => exact quiet d rfl he
end
end Go.Cap
namespace Go.Cap
open Go
def guardC (ops : Array Oper) : Option (Nat × Bool) → Option (Nat × Bool) → Bool
  | none, none => true
  | some (g, b), some (j, b') => b == b' && (match ops[j]? with | some o => decide (o.dst = some g) | none => false)
  | _, _ => false
def dstLt (nt : Nat) : Option Nat → Bool
  | some d => decide (d < nt)
  | none => true
section
variable (P : Program) (nt : Nat) (ops : Array Oper)
def chks : List GOp → List Oper → Bool
  | [], [] => true
  | (g, p) :: ps, os => match p, g with
    | .kp _, none => chks ps os
    | .kp _, some _ => false
    | _, _ => match os with
      | o :: os => guardC ops g o.guard && dstLt nt p.dst && chk P p o && chks ps os
      | [] => false
  | [], _ :: _ => false
end
theorem chks_op {P : Program} {nt : Nat} {ops : Array Oper} {g : Option (Nat × Bool)} {p : POp} {ps : List GOp} {os : List Oper} (hk : ∀ l, p ≠ .kp l) (h : chks P nt ops ((g, p) :: ps) os = true) :
    ∃ o os', os = o :: os' ∧ guardC ops g o.guard = true ∧ dstLt nt p.dst = true ∧ chk P p o = true ∧ chks P nt ops ps os' = true := by
  unfold chks at h
  split at h
  · exact absurd rfl (hk _)
  · exact absurd rfl (hk _)
  · split at h
    · simp only [Bool.and_eq_true] at h
      exact ⟨_, _, rfl, h.1.1.1, h.1.1.2, h.1.2, h.2⟩
    · cases h
theorem dstLt_spec {nt : Nat} {d : Option Nat} (h : dstLt nt d = true) : ∀ x, d = some x → x < nt := by
  intro x hx; subst hx; simpa [dstLt] using h
theorem get_keep (sl : List (Nat × AV)) (i : Nat) : ∀ l : List Nat, get (l.map fun i => (i, get sl i)) i = get sl i ∨ get (l.map fun i => (i, get sl i)) i = .junk
  | [] => .inr rfl
  | x :: l => by
    simp only [List.map_cons, get]
    by_cases h : x = i
    · subst h; simp
    · rw [if_neg h]; exact get_keep sl i l
section
variable {c : Cx}
theorem Sr.keep {M : Mem} {ι : Nat → Option BI} {s : St} {a : Act} {w : World} (h : Sr c M ι s a w) (l : List Nat) : Sr c M ι { s with sl := l.map fun i => (i, get s.sl i) } a w :=
  ⟨h.wr, fun i => by
    rcases get_keep s.sl i l with h1 | h1
    · show Ar M ι (get (l.map _) i) _
      rw [h1]; exact h.slots i
    · show Ar M ι (get (l.map _) i) _
      rw [h1]; exact .junk _, h.nt, h.df⟩
theorem Sr.refine {M : Mem} {ι : Nat → Option BI} {s : St} {a : Act} {w : World} (h : Sr c M ι s a w) {g : Nat} {v : AV} (hv : get s.sl g = v) : Sr c M ι { s with sl := (g, v) :: s.sl } a w :=
  ⟨h.wr, fun i => by
    show Ar M ι (get ((g, v) :: s.sl) i) _
    simp only [get]
    split
    · rename_i e; subst e; rw [← hv]; exact h.slots g
    · exact h.slots i, h.nt, h.df⟩
theorem slot_bool {M : Mem} {ι : Nat → Option BI} {s : St} {a : Act} {w : World} (h : Sr c M ι s a w) {g : Nat} {b : Bool} (hg : get s.sl g = .r (.b b)) : a.tmps[g]? = some (.bool b) := by
  have h1 := h.slots g
  rw [hg] at h1
  cases h1 with
  | r x v h2 =>
    generalize hv : a.tmps.getD g undef = v at h2
    cases h2
    by_cases hlt : g < a.tmps.size
    · rw [Array.getElem?_eq_getElem hlt]
      simp only [Array.getD, hlt, dite_true] at hv
      exact congrArg some hv
    · simp [Array.getD, hlt, undef] at hv
theorem ar_un {M : Mem} {ι : Nat → Option BI} : Ar M ι (.tup []) undef := .tup [] [] rfl fun j c v h => by simp at h
theorem slot_un {M : Mem} {ι : Nat → Option BI} {s : St} {a : Act} {w : World} (h : Sr c M ι s a w) {g : Nat} (hg : get s.sl g = .tup []) : a.tmps[g]? = none ∨ a.tmps[g]? = some undef := by
  have h1 := h.slots g
  rw [hg] at h1
  by_cases hlt : g < a.tmps.size
  · refine .inr ?_
    simp only [Array.getD, hlt, dite_true] at h1
    rw [Array.getElem?_eq_getElem hlt]
    generalize hv : a.tmps[g] = v at h1
    have hv' : a.tmps.getInternal g hlt = v := hv
    rw [hv'] at h1
    cases h1 with
    | tup _ vs hl _ =>
      have : vs = [] := List.eq_nil_of_length_eq_zero hl
      subst this; rfl
  · exact .inl (Array.getElem?_eq_none (by omega))
theorem ev1_any {p : POp} {o : Oper} {M : Mem} {ι : Nat → Option BI} {s : St} {a : Act} {w : World} {K : St → Prop} (h : Sr c M ι s a w) (hc : chk c.P p o = true) (hd : dstLt c.nt p.dst = true) (hnk : ∀ l, p ≠ .kp l) (he : ev1 c p s K) : WpOk c o a w K :=
  ev1_sound h hc (dstLt_spec hd) hnk he
theorem ev_sound {ops : Array Oper} {K : St → Prop} {Q : Exit → Act → World → Prop} (hQ : ∀ s' M' ι' a' w', K s' → Sr c M' ι' s' a' w' → Q .normal a' w') :
    ∀ (ps : List GOp) (os : List Oper) (s : St) (M : Mem) (ι : Nat → Option BI) (a : Act) (w : World), chks c.P c.nt ops ps os = true → Sr c M ι s a w → ev c ps s K → wpList c.P ops Q os a w
  | [], os, s, M, ι, a, w, hc, h, he => by
    cases os with
    | nil => exact hQ s M ι a w he h
    | cons o os => simp [chks] at hc
  | (g, p) :: ps, os, s, M, ι, a, w, hc, h, he => by
    by_cases hk : ∃ l, p = .kp l
    · obtain ⟨l, rfl⟩ := hk
      cases g with
      | some g => simp [chks] at hc
      | none =>
        simp only [chks] at hc
        exact ev_sound hQ ps os _ M ι a w hc (h.keep l) he
    · have hk' : ∀ l, p ≠ .kp l := fun l e => hk ⟨l, e⟩
      obtain ⟨o, os, rfl, hg, hd, hp, hcs⟩ := chks_op hk' hc
      cases g with
      | none =>
        have hog : o.guard = none := by
          cases ho : o.guard with
          | none => rfl
          | some x => rw [ho] at hg; simp [guardC] at hg
        refine wpList_plain hog fun K' hK' => ?_
        have he' : ev1 c p s fun s' => ev c ps s' K := he
        exact ev1_any h hp hd hk' he' K' Q fun s' M' ι' a' w' he hs => hK' _ _ (ev_sound hQ ps os s' M' ι' a' w' hcs hs he)
      | some gb =>
        obtain ⟨g, want⟩ := gb
        cases ho : o.guard with
        | none => rw [ho] at hg; simp [guardC] at hg
        | some jb =>
          obtain ⟨j, want'⟩ := jb
          rw [ho] at hg
          simp only [guardC, Bool.and_eq_true, beq_iff_eq] at hg
          obtain ⟨rfl, hg⟩ := hg
          split at hg
          case h_2 => cases hg
          rename_i oj hoj
          have hdj : oj.dst = some g := by simpa using hg
          have hpd : p.dst = o.dst := by
            simp only [chk, Bool.and_eq_true, decide_eq_true_eq] at hp; exact hp.1
          simp only [ev] at he
          split at he
          case h_3 => exact he.elim
          case h_2 =>
            rename_i hb
            have hy : yielded ops a.tmps j = none := by
              rcases slot_un h hb with e | e <;> simp [yielded, hoj, hdj, e, undef]
            refine wpList_step fun K' hK' => ?_
            have hwant : ¬ Region.wanted o (yielded ops a.tmps) = true := by simp [Region.wanted, ho, hy]
            rw [if_neg hwant]
            refine hK' _ _ (ev_sound hQ ps os _ M ι _ w hcs ?_ he)
            rw [hpd] at hd ⊢
            cases hod : o.dst with
            | none => exact h
            | some d => exact h.put ar_un (dstLt_spec hd d hod)
          rename_i b hb
          have hval := slot_bool h hb
          have hy : yielded ops a.tmps j = some b := by
            simp [yielded, hoj, hdj, hval]
          refine wpList_step fun K' hK' => ?_
          by_cases hbw : b = want
          · have hwant : Region.wanted o (yielded ops a.tmps) = true := by simp [Region.wanted, ho, hy, hbw]
            rw [if_pos hwant]
            have hs' := h.refine (hbw ▸ hb)
            exact ev1_any hs' hp hd hk' (he.1 hbw) K' Q fun s' M' ι' a' w' he hs => hK' _ _ (ev_sound hQ ps os s' M' ι' a' w' hcs hs he)
          · have hbn : b = !want := by cases b <;> cases want <;> simp_all
            have hwant : ¬ Region.wanted o (yielded ops a.tmps) = true := by simp [Region.wanted, ho, hy, hbw]
            rw [if_neg hwant]
            have hs' := h.refine (hbn ▸ hb)
            refine hK' _ _ (ev_sound hQ ps os _ M ι _ w hcs ?_ (he.2 hbn))
            rw [hpd] at hd ⊢
            cases hod : o.dst with
            | none => exact hs'
            | some d => exact hs'.put ar_un (dstLt_spec hd d hod)
end
end Go.Cap
namespace Go.Cap
open Go
def Opd.use : Opd → List Nat
  | .t i => [i]
  | _ => []
def optUse : Option Opd → List Nat
  | some x => x.use
  | none => []
def POp.use : POp → List Nat
  | .mv _ x => x.use
  | .pk _ c a b => c.use ++ a.use ++ b.use
  | .al _ _ => []
  | .bx _ x => x.use
  | .bd _ _ ps => ps.flatMap fun p => p.2.2.use
  | .bs _ _ _ _ ps => ps.flatMap fun p => p.2.use
  | .ld _ _ a => a.use
  | .st _ a x => a.use ++ x.use
  | .bi _ _ x y => x.use ++ y.use
  | .bb _ _ x y => x.use ++ y.use
  | .eqs _ _ _ x y => x.use ++ y.use
  | .eqn _ _ x => x.use
  | .un _ _ x => x.use
  | .cv _ _ x => x.use
  | .cs _ x => x.use
  | .fa _ _ x => x.use
  | .ia _ _ x i => x.use ++ i.use
  | .iA _ _ _ x i => x.use ++ i.use
  | .ix _ x i => x.use ++ i.use
  | .ex _ x _ => x.use
  | .ln _ x => x.use
  | .lS _ x => x.use
  | .ap _ _ _ x y => x.use ++ y.use
  | .mn _ x y => x.use ++ y.use
  | .mx _ x y => x.use ++ y.use
  | .sc _ _ x lo hi => x.use ++ optUse lo ++ optUse hi
  | .sS _ x lo hi => x.use ++ optUse lo ++ optUse hi
  | .mk _ _ _ _ n => n.use
  | .mf _ _ caps => caps.flatMap Opd.use
  | .nc _ x => x.use
  | .ca _ _ args => args.flatMap Opd.use
  | .cf _ _ x args => x.use ++ args.flatMap Opd.use
  | .fd _ _ _ x => x.use
  | .iv _ _ x i => x.use ++ i.use
  | .kp l => l
def POp.quiet : POp → Bool
  | .al .. | .bx .. | .bs .. | .st .. | .ap .. | .mk .. | .ca .. | .cf .. | .kp _ => false
  | _ => true
def guse : GOp → List Nat
  | (some (g, _), p) => g :: p.use
  | (none, p) => p.use
inductive OT where
  | done
  | q (i : Nat) (g : GOp) (t : OT)
  | alt (j : Nat) (g : GOp) (m : List Bool) (t more : OT)
  | stop
  deriving Inhabited
def bdeps (ops : Array Oper) (i : Nat) : List Nat := match ops[i]? with
  | some o => (o.after.toList.filter (Region.binds .any)).map (·.on)
  | none => []
def ancOk (ops : Array Oper) (A : List (List Nat)) : Bool :=
  (List.range ops.size).all fun i => (bdeps ops i).all (fun k => Nat.blt k i) && (A.getD i []).all fun q => (bdeps ops i).any fun k => k == q || (A.getD k []).contains q
section
variable (P : Program) (nt : Nat) (ops : Array Oper) (A : List (List Nat))
def okOp (i : Nat) (g : GOp) : Bool := match ops[i]? with
  | some o => guardC ops g.1 o.guard && dstLt nt g.2.dst && chk P g.2 o
  | none => false
def pendOk (i d : Nat) (g : GOp) : List (Nat × GOp) → Bool
  | [] => true
  | (u, gu) :: l => (match gu.2.dst with
      | some du => !(guse gu).contains d && du != d && ((A.getD i []).contains u || !(guse g).contains du)
      | none => false) && pendOk i d g l
def maskOk (j : Nat) (g : GOp) : List Bool → List (Nat × GOp) → Bool
  | _, [] => true
  | b :: m, (u, gu) :: l => ((A.getD j []).contains u || b && (match gu.2.dst with
      | some du => !(guse g).contains du
      | none => false)) && maskOk j g m l
  | [], _ :: _ => false
def chkT : Array Bool → List (Nat × GOp) → Option (List Nat) → OT → Bool
  | listed, _, none, .done => (Region.ready .any ops listed).isEmpty
  | listed, pend, none, .q i g t => (Region.ready .any ops listed).contains i && okOp P nt ops i g && g.2.quiet && (match g.2.dst with
      | some d => !(guse g).contains d && pendOk A i d g pend
      | none => false) && chkT (listed.setIfInBounds i true) (pend ++ [(i, g)]) none t
  | listed, pend, rem, .alt j g m t more => match rem.getD (Region.ready .any ops listed) with
      | r :: rs => r == j && okOp P nt ops j g && maskOk A j g m pend && chkT (listed.setIfInBounds j true) pend none t && chkT listed pend (some rs) more
      | [] => false
  | _, _, some [], .stop => true
  | _, _, _, _ => false
end
end Go.Cap
namespace Go.Cap
open Go
inductive PC where
  | rg (l : List GOp)
  | dr (A : List (List Nat)) (t : OT) (k : List Nat)
  | seq (a b : PC)
  | ite (x : Opd) (a b : PC)
  | blk (id : Nat) (a : PC)
  | lp (a : PC)
  | ex (id : Nat)
  | sk
  | rt
  deriving Inhabited
def chkC (P : Program) (nt : Nat) : PC → Code → Bool
  | .rg l, .region _ ops d => !d && chks P nt ops l ops.toList
  | .dr A t _, .region _ ops d => d && P.follows .mixedOrders && ancOk ops A && chkT P nt ops A (Array.replicate ops.size false) [] none t
  | .seq a b, .seq x y => chkC P nt a x && chkC P nt b y
  | .ite c a b, .cond o x y => opdC c o && chkC P nt a x && chkC P nt b y
  | .blk i a, .block j x => i == j && chkC P nt a x
  | .lp a, .loop x => chkC P nt a x
  | .ex i, .exit j => i == j
  | .sk, .skip => true
  | .rt, .ret => true
  | _, _ => false
def Kof (c : Cx) (n : St → Prop) (x : Nat → St → Prop) (r : St → Prop) : Exit → Act → World → Prop
  | .normal, a, w => ∃ s M ι, n s ∧ Sr c M ι s a w
  | .exit i, a, w => ∃ s M ι, x i s ∧ Sr c M ι s a w
  | .ret, a, w => ∃ s M ι, r s ∧ Sr c M ι s a w
  | _, _, _ => False
def Run (c : Cx) (p : PC) (s : St) (n : St → Prop) (x : Nat → St → Prop) (r : St → Prop) : Prop :=
  ∀ code, chkC c.P c.nt p code = true → ∀ M ι a w, Sr c M ι s a w → code.wp c.P (Kof c n x r) a w
section
variable {c : Cx} {s : St} {n : St → Prop} {x : Nat → St → Prop} {r : St → Prop}
theorem run_rg {l : List GOp} (h : ev c l s n) : Run c (.rg l) s n x r := by
  intro code hc M ι a w hs
  cases code <;> simp only [chkC, Bool.false_eq_true, Bool.and_eq_true] at hc
  rename_i id ops d
  have hd : d = false := by simpa using hc.1
  subst hd
  exact wp_region_list (ev_sound (fun s' M' ι' a' w' hK hs' => ⟨s', M', ι', hK, hs'⟩) l ops.toList s M ι a w hc.2 hs h)
theorem run_seq {p q : PC} (h : Run c p s (fun s' => Run c q s' n x r) x r) : Run c (.seq p q) s n x r := by
  intro code hc M ι a w hs
  cases code <;> simp only [chkC, Bool.false_eq_true, Bool.and_eq_true] at hc
  rename_i u v
  refine wp_seq (wp_mono (h u hc.1 M ι a w hs) fun e a' w' hq => ?_)
  cases e with
  | normal =>
    obtain ⟨s', M', ι', hK, hs'⟩ := hq
    exact hK v hc.2 M' ι' a' w' hs'
  | exit i => exact hq
  | ret => exact hq
  | goto l => exact hq
  | panic ch => exact hq
  | outgrown => exact hq
theorem run_ite {o : Opd} {p q : PC} {t : Bool} (ho : o.ev s.sl = .r (.b t)) (h1 : t = true → Run c p s n x r) (h2 : t = false → Run c q s n x r) : Run c (.ite o p q) s n x r := by
  intro code hc M ι a w hs
  cases code <;> simp only [chkC, Bool.false_eq_true, Bool.and_eq_true] at hc
  rename_i y u v
  have har := opdC_spec (M := M) (ι := ι) hs.slots hc.1.1
  rw [ho] at har
  generalize hv : a.eval y = val at har
  cases har with
  | r _ _ h =>
    cases h
    exact wp_cond_split hv (fun ht => h1 ht u hc.1.2 M ι a w hs) (fun ht => h2 ht v hc.2 M ι a w hs)
theorem run_blk {i : Nat} {p : PC} (h : Run c p s n (fun j s' => if j = i then n s' else x j s') r) : Run c (.blk i p) s n x r := by
  intro code hc M ι a w hs
  cases code <;> simp only [chkC, Bool.false_eq_true, Bool.and_eq_true, beq_iff_eq] at hc
  rename_i j u
  obtain ⟨rfl, hc⟩ := hc
  refine wp_block (wp_mono (h u hc M ι a w hs) fun e a' w' hq => ?_)
  cases e with
  | normal => exact hq
  | exit k =>
    obtain ⟨s', M', ι', hK, hs'⟩ := hq
    simp only [Exit.inBlock]
    split
    · rename_i e; rw [if_pos e] at hK; exact ⟨s', M', ι', hK, hs'⟩
    · rename_i e; rw [if_neg e] at hK; exact ⟨s', M', ι', hK, hs'⟩
  | ret => exact hq
  | goto l => exact hq
  | panic ch => exact hq
  | outgrown => exact hq
theorem run_ex {i : Nat} (h : x i s) : Run c (.ex i) s n x r := by
  intro code hc M ι a w hs
  cases code <;> simp only [chkC, Bool.false_eq_true, beq_iff_eq] at hc
  subst hc
  exact wp_exit ⟨s, M, ι, h, hs⟩
theorem run_sk (h : n s) : Run c .sk s n x r := by
  intro code hc M ι a w hs
  cases code <;> simp only [chkC, Bool.false_eq_true] at hc
  exact wp_skip ⟨s, M, ι, h, hs⟩
theorem run_rt (h : r s) : Run c .rt s n x r := by
  intro code hc M ι a w hs
  cases code <;> simp only [chkC, Bool.false_eq_true] at hc
  exact wp_ret ⟨s, M, ι, h, hs⟩
theorem run_mono {p : PC} {n' : St → Prop} {x' : Nat → St → Prop} {r' : St → Prop} (h : Run c p s n x r) (hn : ∀ s, n s → n' s) (hx : ∀ i s, x i s → x' i s) (hr : ∀ s, r s → r' s) : Run c p s n' x' r' := by
  intro code hc M ι a w hs
  refine wp_mono (h code hc M ι a w hs) fun e a' w' hq => ?_
  cases e with
  | normal => obtain ⟨s', M', ι', hK, hs'⟩ := hq; exact ⟨s', M', ι', hn _ hK, hs'⟩
  | exit k => obtain ⟨s', M', ι', hK, hs'⟩ := hq; exact ⟨s', M', ι', hx _ _ hK, hs'⟩
  | ret => obtain ⟨s', M', ι', hK, hs'⟩ := hq; exact ⟨s', M', ι', hr _ hK, hs'⟩
  | goto l => exact hq
  | panic ch => exact hq
  | outgrown => exact hq
def Le (c : Cx) (s t : St) : Prop := ∀ M ι a w, Sr c M ι s a w → ∃ M' ι', Sr c M' ι' t a w
theorem Le.refl (s : St) : Le c s s := fun M ι _ _ h => ⟨M, ι, h⟩
theorem Le.trans {s t u : St} (h : Le c s t) (k : Le c t u) : Le c s u := fun M ι a w hs => by
  obtain ⟨M', ι', h'⟩ := h M ι a w hs
  exact k M' ι' a w h'
theorem run_le {t : St} {p : PC} (hl : Le c s t) (h : Run c p t n x r) : Run c p s n x r := by
  intro code hc M ι a w hs
  obtain ⟨M', ι', hs'⟩ := hl M ι a w hs
  exact h code hc M' ι' a w hs'
theorem run_join {p q : PC} (J : St → Prop) (h : Run c p s (fun s' => ∃ t, J t ∧ Le c s' t) x r) (h2 : ∀ t, J t → Run c q t n x r) : Run c (.seq p q) s n x r :=
  run_seq (run_mono h (fun _ ⟨_, hj, hl⟩ => run_le hl (h2 _ hj)) (fun _ _ h => h) (fun _ h => h))
theorem least {p : Nat → Prop} (h : ∃ n, p n) : ∃ n, p n ∧ ∀ k, p k → n ≤ k := by
  obtain ⟨n, hn⟩ := h
  induction n using Nat.strongRecOn with
  | _ n ih =>
    by_cases hk : ∃ k, k < n ∧ p k
    · obtain ⟨k, hkn, hk⟩ := hk
      exact ih k hkn hk
    · exact ⟨n, hn, fun k hk' => Nat.le_of_not_lt fun hlt => hk ⟨k, hlt, hk'⟩⟩
open Classical in
theorem run_lp {p : PC} {α : Type} (S : α → St) (C : α → Prop) (μ : α → Nat) (y0 : α) (h0 : C y0) (hs0 : Le c s (S y0))
    (hb : ∀ y, C y → Run c p (S y) (fun s' => ∃ y', C y' ∧ μ y' < μ y ∧ Le c s' (S y')) x r) : Run c (.lp p) s n x r := by
  intro code hc M ι a w hs
  cases code <;> simp only [chkC, Bool.false_eq_true] at hc
  rename_i u
  let G : Act → World → Nat → Prop := fun a w k => ∃ y M ι, C y ∧ μ y = k ∧ Sr c M ι (S y) a w
  let mu : Act → World → Nat := fun a w => if h : ∃ k, G a w k then Classical.choose (least h) else 0
  have hmu : ∀ a w, (∃ k, G a w k) → G a w (mu a w) ∧ ∀ k, G a w k → mu a w ≤ k := fun a w h => by
    have e : mu a w = Classical.choose (least h) := dif_pos h
    rw [e]; exact Classical.choose_spec (least h)
  obtain ⟨M0, ι0, hs0⟩ := hs0 M ι a w hs
  refine wp_loop (fun a w => ∃ k, G a w k) mu ⟨_, y0, M0, ι0, h0, rfl, hs0⟩ fun a w hI => ?_
  obtain ⟨⟨y, M, ι, hC, hm, hs⟩, _⟩ := hmu a w hI
  refine wp_mono (hb y hC u hc M ι a w hs) fun e a' w' hq => ?_
  cases e with
  | normal =>
    obtain ⟨s', M', ι', ⟨y', hC', hlt, hle⟩, hs'⟩ := hq
    obtain ⟨M'', ι'', hs''⟩ := hle M' ι' a' w' hs'
    have hG : G a' w' (μ y') := ⟨y', M'', ι'', hC', rfl, hs''⟩
    have := (hmu a' w' ⟨_, hG⟩).2 _ hG
    exact ⟨⟨_, hG⟩, by omega⟩
  | exit k => exact hq
  | ret => exact hq
  | goto l => exact hq
  | panic ch => exact hq
  | outgrown => exact hq
end
end Go.Cap
namespace Go.Cap
open Go
def renA (f : Nat → Nat) : AV → AV
  | .ptr b i o => .ptr (f b) i o
  | .sl b st n => .sl (f b) st n
  | .agg cs => .agg (renL f cs)
  | .tup vs => .tup (renL f vs)
  | .fn g caps => .fn g (renL f caps)
  | .r x => .r x
  | .rp cs o => .rp cs o
  | .junk => .junk
where renL (f : Nat → Nat) : List AV → List AV
  | [] => []
  | v :: l => renA f v :: renL f l
def renB (f : Nat → Nat) : Blk → Blk
  | .var cs => .var (renA.renL f cs)
  | .row sz L => .row sz L
def renH (f : Nat → Nat) (hp : List (Nat × Blk)) : List (Nat × Blk) := hp.map fun p => (f p.1, renB f p.2)
section
variable (f : Nat → Nat)
@[go_sem] theorem renA_r (x : RV) : renA f (.r x) = .r x := (rfl)
@[go_sem] theorem renA_ptr (b i o : Nat) : renA f (.ptr b i o) = .ptr (f b) i o := (rfl)
@[go_sem] theorem renA_sl (b i o : Nat) : renA f (.sl b i o) = .sl (f b) i o := (rfl)
@[go_sem] theorem renA_agg (cs : List AV) : renA f (.agg cs) = .agg (renA.renL f cs) := (rfl)
@[go_sem] theorem renA_tup (cs : List AV) : renA f (.tup cs) = .tup (renA.renL f cs) := (rfl)
@[go_sem] theorem renA_fn (g : Nat) (cs : List AV) : renA f (.fn g cs) = .fn g (renA.renL f cs) := (rfl)
@[go_sem] theorem renA_rp (cs : List RV) (o : Nat) : renA f (.rp cs o) = .rp cs o := (rfl)
@[go_sem] theorem renA_junk : renA f .junk = .junk := (rfl)
@[go_sem] theorem renL_nil : renA.renL f [] = [] := (rfl)
@[go_sem] theorem renL_cons (v : AV) (l : List AV) : renA.renL f (v :: l) = renA f v :: renA.renL f l := (rfl)
@[go_sem] theorem renL_map (l : List RV) : renA.renL f (l.map .r) = l.map .r := by
  induction l with
  | nil => rfl
  | cons x l ih => simp [renA.renL, renA, ih]
@[go_sem] theorem renB_var (cs : List AV) : renB f (.var cs) = .var (renA.renL f cs) := (rfl)
@[go_sem] theorem renB_row (sz : Nat) (L : List (List RV)) : renB f (.row sz L) = .row sz L := (rfl)
@[go_sem] theorem renH_nil : renH f [] = [] := (rfl)
@[go_sem] theorem renH_cons (b : Nat) (x : Blk) (l : List (Nat × Blk)) : renH f ((b, x) :: l) = (f b, renB f x) :: renH f l := (rfl)
theorem renL_get : ∀ (cs : List AV) (j : Nat), (renA.renL f cs)[j]? = (cs[j]?).map (renA f)
  | [], j => by simp [renA.renL]
  | x :: cs, 0 => by simp [renA.renL]
  | x :: cs, j + 1 => by simpa [renA.renL] using renL_get cs j
theorem renL_len : ∀ (cs : List AV), (renA.renL f cs).length = cs.length
  | [] => rfl
  | x :: cs => by simp [renA.renL, renL_len cs]
theorem renL_eq (cs : List AV) : renA.renL f cs = cs.map (renA f) := by
  induction cs with
  | nil => rfl
  | cons x cs ih => simp [renA.renL, ih]
end
theorem Ar.push {M : Mem} {ι ι' : Nat → Option BI} {f : Nat → Nat} (hf : ∀ b x, ι b = some x → ι' (f b) = some x) {x : AV} {v : Value} (h : Ar M ι x v) : Ar M ι' (renA f x) v := by
  induction h with
  | r x v h => exact .r x v h
  | ptr b i o g cap sz h => exact .ptr _ i o g cap sz (hf _ _ h)
  | slv b cap sz h => exact .slv _ cap sz (hf _ _ h)
  | sl b st n c g cap sz h hn hc hm => exact .sl _ st n c g cap sz (hf _ _ h) hn hc hm
  | sle b st a bi h => exact .sle _ st a bi (hf _ _ h)
  | rp cs o blk off arr e fr hM hv => exact .rp cs o blk off arr e fr hM hv
  | agg cs vs hl h1 h ih =>
    refine .agg _ vs (by rw [hl, renL_len]) h1 fun j c v hc hv => ?_
    rw [renL_get] at hc
    cases hj : cs[j]? with
    | none => rw [hj] at hc; cases hc
    | some c0 => rw [hj] at hc; simp at hc; subst hc; exact ih j c0 v hj hv
  | tup cs vs hl h ih =>
    refine .tup _ vs (by rw [hl, renL_len]) fun j c v hc hv => ?_
    rw [renL_get] at hc
    cases hj : cs[j]? with
    | none => rw [hj] at hc; cases hc
    | some c0 => rw [hj] at hc; simp at hc; subst hc; exact ih j c0 v hj hv
  | fn g cs vs hl h ih =>
    refine .fn g _ vs (by rw [hl, renL_len]) fun j c v hc hv => ?_
    rw [renL_get] at hc
    cases hj : cs[j]? with
    | none => rw [hj] at hc; cases hc
    | some c0 => rw [hj] at hc; simp at hc; subst hc; exact ih j c0 v hj hv
  | junk v => exact .junk v
theorem Ar.pull {M : Mem} {ι ι' : Nat → Option BI} {f : Nat → Nat} (hf : ∀ b x, ι (f b) = some x → ι' b = some x) {y : AV} {v : Value} (h : Ar M ι y v) : ∀ x, renA f x = y → Ar M ι' x v := by
  induction h with
  | r x v h => intro y hy; cases y <;> simp only [renA] at hy <;> (try cases hy); exact .r x v h
  | ptr b i o g cap sz h => intro y hy; cases y <;> simp only [renA] at hy <;> (try cases hy); exact .ptr _ i o g cap sz (hf _ _ h)
  | slv b cap sz h => intro y hy; cases y <;> simp only [renA] at hy <;> (try cases hy); exact .slv _ cap sz (hf _ _ h)
  | sl b st n c g cap sz h hn hc hm => intro y hy; cases y <;> simp only [renA] at hy <;> (try cases hy); exact .sl _ st n c g cap sz (hf _ _ h) hn hc hm
  | sle b st a bi h => intro y hy; cases y <;> simp only [renA] at hy <;> (try cases hy); exact .sle _ st a bi (hf _ _ h)
  | rp cs o blk off arr e fr hM hv => intro y hy; cases y <;> simp only [renA] at hy <;> (try cases hy); exact .rp cs o blk off arr e fr hM hv
  | agg cs vs hl h1 h ih =>
    intro y hy
    cases y <;> simp only [renA] at hy <;> (try cases hy)
    rename_i ys
    refine .agg _ vs (by rw [hl, renL_len]) h1 fun j c v hc hv => ih j _ v (by rw [renL_get, hc]; rfl) hv c rfl
  | tup cs vs hl h ih =>
    intro y hy
    cases y <;> simp only [renA] at hy <;> (try cases hy)
    refine .tup _ vs (by rw [hl, renL_len]) fun j c v hc hv => ih j _ v (by rw [renL_get, hc]; rfl) hv c rfl
  | fn g cs vs hl h ih =>
    intro y hy
    cases y <;> simp only [renA] at hy <;> (try cases hy)
    refine .fn _ _ vs (by rw [hl, renL_len]) fun j c v hc hv => ih j _ v (by rw [renL_get, hc]; rfl) hv c rfl
  | junk v => intro y hy; cases y <;> simp only [renA] at hy <;> (try cases hy); exact .junk v
theorem get_mem : ∀ (sl : List (Nat × AV)) (i : Nat), get sl i = .junk ∨ (i, get sl i) ∈ sl
  | [], i => .inl rfl
  | (j, v) :: l, i => by
    simp only [get]
    by_cases h : j = i
    · subst h; simp
    · rw [if_neg h]
      rcases get_mem l i with h1 | h1
      · exact .inl h1
      · exact .inr (List.mem_cons_of_mem _ h1)
theorem hget_mem : ∀ (hp : List (Nat × Blk)) (b : Nat) (x : Blk), hget hp b = some x → (b, x) ∈ hp
  | [], b, x, h => by simp [hget] at h
  | (j, v) :: l, b, x, h => by
    simp only [hget] at h
    by_cases hj : j = b
    · subst hj; simp at h; subst h; simp
    · rw [if_neg hj] at h; exact List.mem_cons_of_mem _ (hget_mem l b x h)
theorem Br.pull {M : Mem} {ι ι' : Nat → Option BI} {f : Nat → Nat} {w : World} {bi : BI} {blk : Blk} (hf : ∀ b x, ι (f b) = some x → ι' b = some x) (h : Br M ι w bi (renB f blk)) : Br M ι' w bi blk := by
  unfold Br at *
  cases hg : bi.g with
  | none =>
    simp only [hg] at h ⊢
    obtain ⟨sz, h⟩ := h
    cases blk with
    | var cs => simp [renB] at h
    | row sz' L => exact ⟨sz, h⟩
  | some g =>
    simp only [hg] at h ⊢
    obtain ⟨h0, arr, e, h1, h2, h3, h4⟩ := h
    refine ⟨h0, arr, e, h1, h2, h3, ?_⟩
    cases blk with
    | var cs =>
      refine ⟨h4.1, by have := h4.2.1; rwa [renL_len] at this, fun j x v hx hv => ?_⟩
      exact (h4.2.2 j _ v (by rw [renL_get, hx]; rfl) hv).pull hf x rfl
    | row sz L => exact h4
def nums (l : List (Nat × Nat)) (tn sn : Nat) (b : Nat) : Nat := match l with
  | [] => if b < tn then b else b + sn
  | (x, y) :: l => if b = x then y else nums l tn sn b
@[go_sem] theorem nums_nil (tn sn b : Nat) : nums [] tn sn b = if b < tn then b else b + sn := (rfl)
@[go_sem] theorem nums_cons (x y : Nat) (l : List (Nat × Nat)) (tn sn b : Nat) : nums ((x, y) :: l) tn sn b = if b = x then y else nums l tn sn b := (rfl)
theorem nums_ge (l : List (Nat × Nat)) (tn sn b : Nat) (hl : ∀ p ∈ l, p.1 < tn) (hb : tn ≤ b) : sn ≤ nums l tn sn b := by
  induction l with
  | nil => simp only [nums]; rw [if_neg (by omega)]; omega
  | cons p l ih =>
    obtain ⟨x, y⟩ := p
    have := hl (x, y) (by simp)
    simp only [nums]
    rw [if_neg (by simp at this; omega)]
    exact ih fun p hp => hl p (List.mem_cons_of_mem _ hp)
theorem le_nums {c : Cx} {s t : St} (l : List (Nat × Nat)) (hl : ∀ p ∈ l, p.1 < t.nx) (hm : ∀ p ∈ l, c.m ≤ p.1)
    (hsl : ∀ p ∈ t.sl, p.2 = .junk ∨ get s.sl p.1 = renA (nums l t.nx s.nx) p.2) (hhp : ∀ p ∈ t.hp, hget s.hp (nums l t.nx s.nx p.1) = some (renB (nums l t.nx s.nx) p.2))
    (hinj : (t.hp.map fun p => nums l t.nx s.nx p.1).Nodup) (hmt : c.m ≤ t.nx) (hgs : t.gs.Nodup ∧ ∀ g, g ∈ t.gs → g ∈ s.gs) : Le c s t := by
  intro M ι a w h
  let f := nums l t.nx s.nx
  have hlow : ∀ b, b < c.m → f b = b := fun b hb => by
    have key : ∀ l' : List (Nat × Nat), (∀ p ∈ l', c.m ≤ p.1) → nums l' t.nx s.nx b = b := by
      intro l' hl'
      induction l' with
      | nil => simp only [nums]; rw [if_pos (by omega)]
      | cons p l' ih =>
        obtain ⟨x, y⟩ := p
        have := hl' (x, y) (by simp)
        simp only [nums]
        rw [if_neg (by simp at this; omega)]
        exact ih fun p hp => hl' p (List.mem_cons_of_mem _ hp)
    exact key l hm
  have hback : ∀ b x, ι (f b) = some x → (ι ∘ f) b = some x := fun b x h => h
  have hin : ∀ b b' blk blk', hget t.hp b = some blk → hget t.hp b' = some blk' → f b = f b' → b = b' := by
    intro b b' blk blk' h1 h2 hff
    have m1 := hget_mem _ _ _ h1
    have m2 := hget_mem _ _ _ h2
    obtain ⟨i, hi, e1⟩ := List.getElem_of_mem m1
    obtain ⟨j, hj, e2⟩ := List.getElem_of_mem m2
    have hpw := List.pairwise_iff_getElem.1 hinj
    by_cases hij : i = j
    · subst hij; rw [e1] at e2; cases e2; rfl
    · exfalso
      rcases Nat.lt_or_gt_of_ne hij with hlt | hlt
      · refine hpw i j (by simpa using hi) (by simpa using hj) hlt ?_
        simp only [List.getElem_map, e1, e2]
        exact hff
      · refine hpw j i (by simpa using hj) (by simpa using hi) hlt ?_
        simp only [List.getElem_map, e1, e2]
        exact hff.symm
  have hold : ∀ b blk, hget t.hp b = some blk → hget s.hp (f b) = some (renB f blk) := fun b blk hb => hhp _ (hget_mem _ _ _ hb)
  refine ⟨M, ι ∘ f, ⟨⟨h.wr.msub, h.wr.m0, h.wr.mnew, fun b blk hb => ?_, fun b b' bi bi' g h1 h2 h3 h4 h5 h6 => ?_, fun b bi g h1 h2 h3 => ?_, h.wr.kept, fun b hb => ?_, hmt, fun b x hb hx => ?_, hgs.1, fun g hg => h.wr.gsm g (hgs.2 g hg)⟩, fun i => ?_, h.nt, h.df⟩⟩
  · obtain ⟨bi, k1, k2⟩ := h.wr.heap _ _ (hold b blk hb)
    exact ⟨bi, k1, k2.pull hback⟩
  · obtain ⟨x1, e1⟩ := hget_ne_some h1
    obtain ⟨x2, e2⟩ := hget_ne_some h2
    exact hin b b' _ _ e1 e2 (h.wr.inj _ _ bi bi' g (by rw [hold _ _ e1]; simp) (by rw [hold _ _ e2]; simp) h3 h4 h5 h6)
  · obtain ⟨x1, e1⟩ := hget_ne_some h1
    exact h.wr.own _ bi g (by rw [hold _ _ e1]; simp) h2 h3
  · exact h.wr.fresh _ (nums_ge l _ _ _ hl hb)
  · refine h.wr.anc b x hb ?_
    have := hlow b hb
    rw [← this]; exact hx
  · rcases get_mem t.sl i with h1 | h1
    · rw [h1]; exact .junk _
    · rcases hsl _ h1 with h2 | h2
      · simp only at h2; rw [h2]; exact .junk _
      · exact (h.slots i).pull hback _ h2.symm
end Go.Cap
namespace Go.Cap
open Go
inductive RO where
  | t (i : Nat)
  | c (i : Nat) (sz : Option Nat)
  deriving Inhabited
def resV (s : St) : RO → QR
  | .t i => .val (get s.sl i)
  | .c i sz => ldA s.hp sz (get s.sl i)
def resQ (q : QR) (K : AV → Prop) : Prop := match q with
  | .val v => K v
  | .need p v => p ∧ K v
  | _ => False
@[go_sem] theorem resQ_val (v : AV) (K : AV → Prop) : resQ (.val v) K = K v := (rfl)
@[go_sem] theorem resQ_need (p : Prop) (v : AV) (K : AV → Prop) : resQ (.need p v) K = (p ∧ K v) := (rfl)
def resK : List RO → St → (List AV → Prop) → Prop
  | [], _, K => K []
  | x :: xs, s, K => resQ (resV s x) fun v => resK xs s fun vs => K (v :: vs)
def mkRes : List AV → AV
  | [v] => v
  | vs => .tup vs
def Ret (rs : List RO) (Q : AV → List (Nat × Blk) → Nat → List Nat → Prop) (s : St) : Prop := resK rs s fun vs => Q (mkRes vs) s.hp s.nx s.gs
@[go_sem] theorem resV_t (s : St) (i : Nat) : resV s (.t i) = .val (get s.sl i) := (rfl)
@[go_sem] theorem resV_c (s : St) (i : Nat) (sz : Option Nat) : resV s (.c i sz) = ldA s.hp sz (get s.sl i) := (rfl)
@[go_sem] theorem resK_nil (s : St) (K : List AV → Prop) : resK [] s K = K [] := (rfl)
@[go_sem] theorem resK_cons (x : RO) (xs : List RO) (s : St) (K : List AV → Prop) : resK (x :: xs) s K = resQ (resV s x) fun v => resK xs s fun vs => K (v :: vs) := (rfl)
@[go_sem] theorem mkRes_one (v : AV) : mkRes [v] = v := (rfl)
@[go_sem] theorem mkRes_nil : mkRes [] = .tup [] := (rfl)
@[go_sem] theorem mkRes_two (v u : AV) (l : List AV) : mkRes (v :: u :: l) = .tup (v :: u :: l) := (rfl)
def roC (P : Program) : RO → ResultVar → Bool
  | .t i, .tmp j => i == j
  | .c i sz, .cell j t => i == j && decide (szOf P t = some sz)
  | _, _ => false
def resC (P : Program) : List RO → List ResultVar → Bool
  | [], [] => true
  | x :: xs, y :: ys => roC P x y && resC P xs ys
  | _, _ => false
def resOne (tmps : Array Value) : ResultVar → Sem Value
  | .tmp t => pure (tmps.getD t undef)
  | .cell a t => do loadVar t (← asAddr (tmps.getD a undef))
section
variable {c : Cx} {M : Mem} {ι : Nat → Option BI} {s : St} {a : Act} {w : World}
theorem resOne_ok {x : RO} {y : ResultVar} (h : Sr c M ι s a w) (hc : roC c.P x y = true) {K : AV → Prop} (hK : resQ (resV s x) K) :
    ∃ v u, K v ∧ (resOne a.tmps y).run c.P w = .ok u w ∧ Ar M ι v u := by
  cases x <;> cases y <;> simp only [roC, Bool.false_eq_true, Bool.and_eq_true, beq_iff_eq, decide_eq_true_eq] at hc
  · subst hc
    exact ⟨_, _, hK, rfl, h.slots _⟩
  · rename_i i sz j t
    obtain ⟨rfl, ht⟩ := hc
    let o : Oper := { (default : Oper) with op := .load t (.tmp i) }
    have hq := q_ld (P := c.P) (o := o) (a := a) (x := .t i) (x' := .tmp i) h.slots h.wr.msub h.wr.heap rfl (by simp [opdC]) ht
    have fin : ∀ u, (execOp a.eval o).run c.P w = .ok (.value u) w → (resOne a.tmps (.cell i t)).run c.P w = .ok u w := by
      intro u hu
      have e1 : execOp a.eval o = (do let v ← Instr.loadAt t (a.tmps.getD i undef); pure (.value v)) := by
        simp [execOp, o, Act.eval]
      rw [e1] at hu
      simp only [Sem.run_bind] at hu
      generalize hv : a.tmps.getD i undef = v at hu
      have e2 : (Instr.loadAt t v).run c.P w = .ok u w := by
        cases hr : (Instr.loadAt t v).run c.P w with
        | ok x w1 => rw [hr] at hu; simp at hu; obtain ⟨rfl, rfl⟩ := hu; rfl
        | halt x w1 => rw [hr] at hu; simp at hu
      unfold resOne
      simp only [hv]
      unfold Instr.loadAt Instr.sureAddr at e2
      cases v <;> simp only [Sem.run_bind] at e2 ⊢
      case pointer p =>
        cases p with
        | some ad => simpa [asAddr] using e2
        | none => simp at e2
      all_goals simp at e2
    have hev : (Opd.t i).ev s.sl = get s.sl i := rfl
    simp only [resV] at hK
    rw [hev] at hq
    cases hqv : ldA s.hp sz (get s.sl i) with
    | val v =>
      rw [hqv] at hK hq
      obtain ⟨u, hu, hr⟩ := hq
      exact ⟨v, u, hK, fin u (hu w (Ext.refl w)), hr⟩
    | need p v =>
      rw [hqv] at hK hq
      obtain ⟨u, hu, hr⟩ := hq hK.1
      exact ⟨v, u, hK.2, fin u (hu w (Ext.refl w)), hr⟩
    | asm p v => rw [hqv] at hK; exact hK.elim
    | bad => rw [hqv] at hK; exact hK.elim
theorem resList_ok (h : Sr c M ι s a w) : ∀ {xs : List RO} {ys : List ResultVar}, resC c.P xs ys = true → ∀ {K : List AV → Prop}, resK xs s K →
    ∃ vs us, K vs ∧ (ys.mapM (resOne a.tmps)).run c.P w = .ok us w ∧ us.length = vs.length ∧ ∀ (j : Nat) v u, vs[j]? = some v → us[j]? = some u → Ar M ι v u
  | [], [], _, K, hK => ⟨[], [], hK, rfl, rfl, fun j v u hv => by simp at hv⟩
  | [], _ :: _, hc, _, _ => by simp [resC] at hc
  | _ :: _, [], hc, _, _ => by simp [resC] at hc
  | x :: xs, y :: ys, hc, K, hK => by
    simp only [resC, Bool.and_eq_true] at hc
    obtain ⟨v, u, hK1, hu, hr⟩ := resOne_ok h hc.1 hK
    obtain ⟨vs, us, hK2, hus, hl, hrs⟩ := resList_ok h hc.2 hK1
    refine ⟨v :: vs, u :: us, hK2, ?_, by simp [hl], fun j v' u' h1 h2 => ?_⟩
    · simp only [List.mapM_cons, Sem.run_bind, hu, Result.andThen_ok, hus, Sem.run_pure]
    · cases j with
      | zero => simp at h1 h2; subst h1; subst h2; exact hr
      | succ j => simp at h1 h2; exact hrs j v' u' h1 h2
theorem res_ok {fn : Func} {rs : List RO} (h : Sr c M ι s a w) (hc : resC c.P rs fn.results.toList = true) {Q : AV → List (Nat × Blk) → Nat → List Nat → Prop} (hK : Ret rs Q s) :
    ∃ r v, Q r s.hp s.nx s.gs ∧ (results fn a.tmps).run c.P w = .ok v w ∧ Ar M ι r v := by
  obtain ⟨vs, us, hK, hus, hl, hr⟩ := resList_ok h hc hK
  have e : results fn a.tmps = (do let xs ← fn.results.mapM (resOne a.tmps); pure (if h : xs.size = 1 then xs[0] else .tuple xs)) := by
    unfold results
    congr
  refine ⟨mkRes vs, if h : us.toArray.size = 1 then us.toArray[0] else .tuple us.toArray, hK, ?_, ?_⟩
  · rw [e, Array.mapM_eq_mapM_toList]
    simp only [map_eq_pure_bind, Sem.run_bind, hus, Result.andThen_ok, Sem.run_pure]
  · match vs, us, hl, hr with
    | [], [], _, hr => exact .tup [] [] rfl (fun j c v h => by simp at h)
    | [v], [u], _, hr => simpa [mkRes] using hr 0 v u rfl rfl
    | v1 :: v2 :: vs, u1 :: u2 :: us, hl, hr =>
      have : ¬ (u1 :: u2 :: us).toArray.size = 1 := by simp
      rw [dif_neg this]
      exact .tup _ _ hl hr
end
def Spec (P : Program) (f m : Nat) (H : List (Nat × Blk)) (args : List AV) (Q : AV → List (Nat × Blk) → Nat → List Nat → Prop) : Prop :=
  ∀ (M : Mem) (ι : Nat → Option BI) (w : World) (X : List Nat) (nt : Nat), Wr ⟨P, w, X, M, nt, m, ι⟩ M ι H m [] w → ∀ vs, Args M ι args vs →
    Calls P f vs.toArray w fun e w' => ∃ v r hp' nx' gs' M' ι', e = .returned v ∧ Ar M' ι' r v ∧ Q r hp' nx' gs' ∧ Wr ⟨P, w, X, M, nt, m, ι⟩ M' ι' hp' nx' gs' w'
theorem Wr.nt {P : Program} {w0 : World} {X : List Nat} {M0 : Mem} {nt nt' m : Nat} {i0 : Nat → Option BI} {M : Mem} {ι : Nat → Option BI} {hp : List (Nat × Blk)} {nx : Nat} {gs : List Nat} {w : World}
    (h : Wr ⟨P, w0, X, M0, nt, m, i0⟩ M ι hp nx gs w) : Wr ⟨P, w0, X, M0, nt', m, i0⟩ M ι hp nx gs w :=
  ⟨h.msub, h.m0, h.mnew, h.heap, h.inj, h.own, h.kept, h.fresh, h.mle, h.anc, h.gsn, h.gsm⟩
def zipS : Nat → List AV → List (Nat × AV)
  | _, [] => []
  | k, v :: l => (k, v) :: zipS (k + 1) l
@[go_sem] theorem zipS_nil (k : Nat) : zipS k [] = [] := (rfl)
@[go_sem] theorem zipS_cons (k : Nat) (v : AV) (l : List AV) : zipS k (v :: l) = (k, v) :: zipS (k + 1) l := (rfl)
theorem zipS_get : ∀ (l : List AV) (k i : Nat), get (zipS k l) i = .junk ∨ ∃ j, i = k + j ∧ l[j]? = some (get (zipS k l) i)
  | [], k, i => .inl rfl
  | v :: l, k, i => by
    simp only [zipS, get]
    by_cases h : k = i
    · subst h; exact .inr ⟨0, by omega, by simp⟩
    · rw [if_neg h]
      rcases zipS_get l (k + 1) i with h1 | ⟨j, h1, h2⟩
      · exact .inl h1
      · exact .inr ⟨j + 1, by omega, by simpa using h2⟩
theorem spec_of_run {P : Program} {f m : Nat} {fn : Func} {code : Code} {pc : PC} {rs : List RO} {H : List (Nat × Blk)} {args : List AV} {Q : AV → List (Nat × Blk) → Nat → List Nat → Prop}
    (hf : P.funcs[f]? = some fn) (hb : fn.body = some code) (hc : chkC P fn.ntmps pc code = true) (hr : resC P rs fn.results.toList = true) (hnb : Nat.ble args.length fn.ntmps = true)
    (h : ∀ c : Cx, c.P = P → c.m = m → Run c pc ⟨zipS 0 args, H, m, []⟩ (Ret rs Q) (fun _ _ => False) (Ret rs Q)) : Spec P f m H args Q := by
  have hn : args.length ≤ fn.ntmps := Nat.le_of_ble_eq_true hnb
  intro M ι w X nt hw vs hargs
  let c : Cx := ⟨P, w, X, M, fn.ntmps, m, ι⟩
  refine calls_of_wp hf hb ?_
  have hsr : Sr c M ι ⟨zipS 0 args, H, m, []⟩ { tmps := vs.toArray ++ Array.replicate (fn.ntmps - vs.toArray.size) undef, defers := [] } w := by
    refine ⟨hw.nt, fun i => ?_, ?_, rfl⟩
    · rcases zipS_get args 0 i with h1 | ⟨j, h1, h2⟩
      · show Ar M ι (get (zipS 0 args) i) _
        rw [h1]; exact .junk _
      · have e : i = j := by omega
        subst e
        have hj : i < args.length := (List.getElem?_eq_some_iff.1 h2).1
        have hjv : i < vs.length := by rw [hargs.1]; exact hj
        have hv : vs[i]? = some vs[i] := List.getElem?_eq_getElem hjv
        have := hargs.2 i _ _ h2 hv
        simp only [Array.getD_eq_getD_getElem?]
        rw [Array.getElem?_append_left (by simpa using hjv)]
        simpa [hv] using this
    · have := hargs.1
      have e1 : c.nt = fn.ntmps := rfl
      rw [e1]
      simp; omega
  refine wp_mono (h c rfl rfl code hc M ι _ w hsr) fun e a' w' hq => ?_
  have fin : ∀ s M' ι', Ret rs Q s → Sr c M' ι' s a' w' → a'.defers = [] ∧ ∃ v, (results fn a'.tmps).run P w' = .ok v w' ∧ ∃ v' r hp' nx' gs' M' ι', Ending.returned v = .returned v' ∧ Ar M' ι' r v' ∧ Q r hp' nx' gs' ∧ Wr ⟨P, w, X, M, nt, m, ι⟩ M' ι' hp' nx' gs' w' := by
    intro s M' ι' hR hs
    obtain ⟨r, v, hQ, hv, har⟩ := res_ok (fn := fn) hs hr hR
    exact ⟨hs.df, v, hv, v, r, s.hp, s.nx, s.gs, M', ι', rfl, har, hQ, hs.wr.nt⟩
  cases e with
  | normal => obtain ⟨s, M', ι', hR, hs⟩ := hq; exact fin s M' ι' hR hs
  | ret => obtain ⟨s, M', ι', hR, hs⟩ := hq; exact fin s M' ι' hR hs
  | exit i => obtain ⟨s, M', ι', hR, hs⟩ := hq; exact hR.elim
  | goto l => exact hq.elim
  | panic ch => exact hq.elim
  | outgrown => exact hq.elim
end Go.Cap
namespace Go.Cap
open Go
def idf : List Nat → Nat → Nat → Nat
  | [], nx, b => nx + b
  | x :: _, _, 0 => x
  | _ :: l, nx, b + 1 => idf l nx b
@[go_sem] theorem idf_nil (nx b : Nat) : idf [] nx b = nx + b := (rfl)
@[go_sem] theorem idf_zero (x : Nat) (l : List Nat) (nx : Nat) : idf (x :: l) nx 0 = x := (rfl)
@[go_sem] theorem idf_succ (x : Nat) (l : List Nat) (nx b : Nat) : idf (x :: l) nx (b + 1) = idf l nx b := (rfl)
theorem idf_lt : ∀ {l : List Nat} {nx b : Nat} (h : b < l.length), idf l nx b = l[b]
  | x :: l, nx, 0, _ => rfl
  | x :: l, nx, b + 1, h => by simpa [idf] using idf_lt (l := l) (nx := nx) (by simpa using h)
theorem idf_ge : ∀ {l : List Nat} {nx b : Nat} (_ : l.length ≤ b), idf l nx b = nx + (b - l.length)
  | [], nx, b, _ => by simp [idf]
  | x :: l, nx, 0, h => by simp at h
  | x :: l, nx, b + 1, h => by
    simp only [idf]
    rw [idf_ge (by simpa using h)]
    simp
def hdels : List Nat → List (Nat × Blk) → List (Nat × Blk)
  | [], hp => hp
  | b :: l, hp => hdels l (hdel hp b)
@[go_sem] theorem hdels_nil (hp : List (Nat × Blk)) : hdels [] hp = hp := (rfl)
@[go_sem] theorem hdels_cons (b : Nat) (l : List Nat) (hp : List (Nat × Blk)) : hdels (b :: l) hp = hdels l (hdel hp b) := (rfl)
theorem hget_hdels : ∀ (l : List Nat) (hp : List (Nat × Blk)) (i : Nat), hget (hdels l hp) i = if i ∈ l then none else hget hp i
  | [], hp, i => by simp [hdels]
  | b :: l, hp, i => by
    simp only [hdels, hget_hdels l, hget_hdel, List.mem_cons]
    by_cases h : i ∈ l <;> by_cases h' : i = b <;> simp [h, h']
theorem hget_renH {f : Nat → Nat} : ∀ {hp : List (Nat × Blk)} {b : Nat} {x : Blk}, hget (renH f hp) b = some x → ∃ b0 x0, hget hp b0 = some x0 ∧ f b0 = b ∧ x = renB f x0
  | [], b, x, h => by simp [renH, hget] at h
  | (j, v) :: l, b, x, h => by
    simp only [renH, List.map_cons, hget] at h
    by_cases hj : f j = b
    · rw [if_pos hj] at h; cases h
      exact ⟨j, v, by simp [hget], hj, rfl⟩
    · rw [if_neg hj] at h
      obtain ⟨b0, x0, h1, h2, h3⟩ := hget_renH (hp := l) h
      refine ⟨b0, x0, ?_, h2, h3⟩
      simp only [hget]
      rw [if_neg (fun e => hj (by rw [e]; exact h2))]
      exact h1
theorem hget_append (A B : List (Nat × Blk)) (b : Nat) : hget (A ++ B) b = match hget A b with | some x => some x | none => hget B b := by
  induction A with
  | nil => rfl
  | cons p A ih =>
    obtain ⟨j, v⟩ := p
    simp only [List.cons_append, hget]
    by_cases h : j = b
    · simp [h]
    · simp only [h, if_false]; exact ih
theorem Br.push {M : Mem} {ι ι' : Nat → Option BI} {f : Nat → Nat} {w : World} {bi : BI} {blk : Blk} (hf : ∀ b x, ι b = some x → ι' (f b) = some x) (h : Br M ι w bi blk) : Br M ι' w bi (renB f blk) := by
  unfold Br at *
  cases hg : bi.g with
  | none =>
    simp only [hg] at h ⊢
    obtain ⟨sz, rfl⟩ := h
    exact ⟨sz, rfl⟩
  | some g =>
    simp only [hg] at h ⊢
    obtain ⟨h0, arr, e, h1, h2, h3, h4⟩ := h
    refine ⟨h0, arr, e, h1, h2, h3, ?_⟩
    cases blk with
    | var cs =>
      refine ⟨h4.1, by rw [renL_len]; exact h4.2.1, fun j x v hx hv => ?_⟩
      rw [renL_get] at hx
      cases hj : cs[j]? with
      | none => rw [hj] at hx; cases hx
      | some c0 => rw [hj] at hx; simp at hx; subst hx; exact (h4.2.2 j c0 v hj hv).push hf
    | row sz L => exact h4
section
variable {c : Cx} {s : St}
theorem call_spec {f : Nat} {H : List (Nat × Blk)} {as0 args : List AV} {Q : AV → List (Nat × Blk) → Nat → List Nat → Prop} {K : AV → St → Prop} (ids : List Nat) (hs : Spec c.P f ids.length H as0 Q) (hnd : ids.Nodup)
    (hH : ∀ p ∈ H, p.1 < ids.length ∧ hget s.hp (idf ids s.nx p.1) = some (renB (idf ids s.nx) p.2)) (hHa : ∀ j, j < ids.length → ∃ x, (j, x) ∈ H) (ha : args = as0.map (renA (idf ids s.nx)))
    (hK : ∀ r hp' nx' gs', Q r hp' nx' gs' → K (renA (idf ids s.nx) r) ⟨s.sl, renH (idf ids s.nx) hp' ++ hdels ids s.hp, s.nx + (nx' - ids.length), gs' ++ s.gs⟩) : Call c f args s K := by
  intro M ι w h vs hargs
  let fn := idf ids s.nx
  let ιH : Nat → Option BI := fun b => if b < ids.length then ι (fn b) else none
  let X : List Nat := ids.filterMap fun i => (ι i).bind (·.g)
  have hback : ∀ b x, ι (fn b) = some x → ιH b = some x := fun b x hx => by
    by_cases hb : b < ids.length
    · show (if b < ids.length then ι (fn b) else none) = _
      rw [if_pos hb]; exact hx
    · have e : fn b = s.nx + (b - ids.length) := idf_ge (by omega)
      rw [e, h.fresh _ (by omega)] at hx; cases hx
  have hmem : ∀ j, j < ids.length → ∃ x, hget s.hp (fn j) = some x ∧ fn j ∈ ids := fun j hj => by
    obtain ⟨x, hx⟩ := hHa j hj
    refine ⟨_, (hH _ hx).2, ?_⟩
    have e : fn j = ids[j] := idf_lt hj
    rw [e]; exact List.getElem_mem hj
  have hfi : ∀ j k, j < ids.length → k < ids.length → fn j = fn k → j = k := fun j k hj hk e => by
    have e1 : fn j = ids[j] := idf_lt hj
    have e2 : fn k = ids[k] := idf_lt hk
    rw [e1, e2] at e
    have hpw := List.pairwise_iff_getElem.1 hnd
    rcases Nat.lt_trichotomy j k with hlt | hlt | hlt
    · exact absurd e (hpw j k hj hk hlt)
    · exact hlt
    · exact absurd e.symm (hpw k j hk hj hlt)
  have hX : ∀ g, g ∈ X → ∃ i bi x, i ∈ ids ∧ hget s.hp i = some x ∧ ι i = some bi ∧ bi.g = some g := fun g hg => by
    obtain ⟨i, hi, he⟩ := List.mem_filterMap.1 hg
    obtain ⟨j, hj, e⟩ := List.getElem_of_mem hi
    obtain ⟨x, hx, _⟩ := hmem j hj
    have e1 : fn j = ids[j] := idf_lt hj
    rw [e1, e] at hx
    cases hb : ι i with
    | none => rw [hb] at he; cases he
    | some bi => rw [hb] at he; exact ⟨i, bi, x, hi, hx, hb, he⟩
  have hXm : ∀ g, g ∈ X → M g = none ∧ (c.w0.heap.size ≤ g ∨ g ∈ c.X) ∧ g < w.heap.size := fun g hg => by
    obtain ⟨i, bi, x, _, hx, hb, hbg⟩ := hX g hg
    obtain ⟨bi', k1, k2⟩ := h.heap i x hx
    rw [hb] at k1; cases k1
    exact ⟨(k2.lt hbg).2, h.own i bi g (by rw [hx]; simp) hb hbg, (k2.lt hbg).1⟩
  have hHget : ∀ j x, hget H j = some x → j < ids.length ∧ hget s.hp (fn j) = some (renB fn x) := fun j x hx => hH _ (hget_mem _ _ _ hx)
  have hw0 : Wr ⟨c.P, w, X, M, 0, ids.length, ιH⟩ M ιH H ids.length [] w := by
    refine ⟨h.msub, Mem.le_refl M, fun g x hx => .inl hx, fun j x hx => ?_, fun j k bi bj g h1 h2 h3 h4 h5 h6 => ?_, fun j bi g h1 h2 h3 => .inr ?_, ⟨rfl, rfl, rfl, Nat.le_refl _, fun _ _ _ => rfl⟩, fun b hb => ?_, Nat.le_refl _, fun b x _ hx => hx, List.nodup_nil, fun g hg => by cases hg⟩
    · obtain ⟨hj, hg⟩ := hHget j x hx
      obtain ⟨bi, k1, k2⟩ := h.heap _ _ hg
      exact ⟨bi, hback _ _ k1, k2.pull hback⟩
    · obtain ⟨x1, e1⟩ := hget_ne_some h1
      obtain ⟨x2, e2⟩ := hget_ne_some h2
      obtain ⟨l1, g1⟩ := hHget _ _ e1
      obtain ⟨l2, g2⟩ := hHget _ _ e2
      have e3 : ιH j = ι (fn j) := if_pos l1
      have e4 : ιH k = ι (fn k) := if_pos l2
      rw [e3] at h3
      rw [e4] at h4
      exact hfi j k l1 l2 (h.inj _ _ bi bj g (by rw [g1]; simp) (by rw [g2]; simp) h3 h4 h5 h6)
    · obtain ⟨x1, e1⟩ := hget_ne_some h1
      obtain ⟨l1, g1⟩ := hHget _ _ e1
      have e3 : ιH j = ι (fn j) := if_pos l1
      rw [e3] at h2
      refine List.mem_filterMap.2 ⟨fn j, (hmem j l1).choose_spec.2, ?_⟩
      rw [h2]; exact h3
    · show (if b < ids.length then ι (fn b) else none) = none
      rw [if_neg (by omega)]
  have hargs0 : Args M ιH as0 vs := by
    subst ha
    refine ⟨by rw [hargs.1]; simp, fun j a0 v h1 h2 => (hargs.2 j _ v (by rw [List.getElem?_map, h1]; rfl) h2).pull hback a0 rfl⟩
  refine (hs M ιH w X 0 hw0 vs hargs0).mono fun e w' he => ?_
  obtain ⟨v, r, hp', nx', gs', M', ι', rfl, hr, hQ, hw'⟩ := he
  let ι2 : Nat → Option BI := fun b => if b < s.nx then ι b else ι' (ids.length + (b - s.nx))
  have hlow : ∀ b x, ι b = some x → b < s.nx := fun b x hx => by
    rcases Nat.lt_or_ge b s.nx with h1 | h1
    · exact h1
    · rw [h.fresh b h1] at hx; cases hx
  have P2 : ∀ b x, ι b = some x → ι2 b = some x := fun b x hx => by
    show (if b < s.nx then ι b else _) = _
    rw [if_pos (hlow b x hx)]; exact hx
  have P1 : ∀ b x, ι' b = some x → ι2 (fn b) = some x := fun b x hx => by
    by_cases hb : b < ids.length
    · have := hw'.anc b x hb hx
      have e : ιH b = ι (fn b) := if_pos hb
      exact P2 _ _ (by rw [← e]; exact this)
    · have e : fn b = s.nx + (b - ids.length) := idf_ge (by omega)
      show (if fn b < s.nx then ι (fn b) else ι' (ids.length + (fn b - s.nx))) = _
      rw [e, if_neg (by omega)]
      have : ids.length + (s.nx + (b - ids.length) - s.nx) = b := by omega
      rw [this]; exact hx
  have hcase : ∀ b x, hget (renH fn hp' ++ hdels ids s.hp) b = some x → (∃ b0 x0 bi, hget hp' b0 = some x0 ∧ fn b0 = b ∧ x = renB fn x0 ∧ ι' b0 = some bi ∧ ι2 b = some bi ∧ Br M' ι' w' bi x0) ∨
      (b ∉ ids ∧ hget s.hp b = some x ∧ ∃ bi, ι b = some bi ∧ ι2 b = some bi ∧ Br M ι w bi x) := fun b x hx => by
    rw [hget_append] at hx
    cases hq : hget (renH fn hp') b with
    | some y =>
      rw [hq] at hx
      cases hx
      obtain ⟨b0, x0, k1, k2, k3⟩ := hget_renH hq
      obtain ⟨bi, q1, q2⟩ := hw'.heap b0 x0 k1
      exact .inl ⟨b0, x0, bi, k1, k2, k3, q1, by rw [← k2]; exact P1 _ _ q1, q2⟩
    | none =>
      rw [hq] at hx
      simp only [hget_hdels] at hx
      split at hx
      · cases hx
      · rename_i hni
        obtain ⟨bi, q1, q2⟩ := h.heap b x hx
        exact .inr ⟨hni, hx, bi, q1, P2 _ _ q1, q2⟩
  have holdX : ∀ b x bi g, b ∉ ids → hget s.hp b = some x → ι b = some bi → bi.g = some g → g ∉ X := fun b x bi g hni hx hb hbg hgX => by
    obtain ⟨i, bj, y, hi, hy, hj, hjg⟩ := hX g hgX
    have := h.inj b i bi bj g (by rw [hx]; simp) (by rw [hy]; simp) hb hj hbg hjg
    exact hni (this ▸ hi)
  have hM'n : ∀ g, M g = none → g < w.heap.size → g ∉ X → M' g = none := fun g h1 h2 h3 => by
    cases hm : M' g with
    | none => rfl
    | some y =>
      rcases hw'.mnew g y hm with k | k | k
      · have k' : M g = some y := k
        rw [h1] at k'; cases k'
      · exact absurd k (Nat.not_le.2 h2)
      · exact absurd k h3
  have hsz := hw'.kept.size
  refine ⟨v, renA fn r, _, _, _, M', ι2, rfl, hr.push P1, hK r hp' nx' gs' hQ, ?_, hw'.m0, P2⟩
  refine ⟨hw'.msub, Mem.le_trans h.m0 hw'.m0, fun g x hx => ?_, fun b x hx => ?_, fun b b' bi bi' g h1 h2 h3 h4 h5 h6 => ?_, fun b bi g h1 h2 h3 => ?_, ?_, fun b hb => ?_, Nat.le_trans h.mle (Nat.le_add_right _ _), fun b x hb hx => ?_, ?_, fun g hg => ?_⟩
  · rcases hw'.mnew g x hx with k | k | k
    · exact h.mnew g x k
    · exact .inr (.inl (Nat.le_trans h.kept.size k))
    · exact .inr (hXm g k).2.1
  · rcases hcase b x hx with ⟨b0, x0, bi, k1, k2, k3, k4, k5, k6⟩ | ⟨k1, k2, bi, k3, k4, k5⟩
    · exact ⟨bi, k5, k3 ▸ k6.push P1⟩
    · exact ⟨bi, k4, k5.ext hw'.m0 P2 (fun g hg => hw'.kept.block g (k5.lt hg).1 (holdX b x bi g k1 k2 k3 hg)) (fun g hg => hM'n g (k5.lt hg).2 (k5.lt hg).1 (holdX b x bi g k1 k2 k3 hg))⟩
  · obtain ⟨x1, e1⟩ := hget_ne_some h1
    obtain ⟨x2, e2⟩ := hget_ne_some h2
    have clash : ∀ b0 x0 bi0 b1 x1 bi1, hget hp' b0 = some x0 → ι' b0 = some bi0 → bi0.g = some g → b1 ∉ ids → hget s.hp b1 = some x1 → ι b1 = some bi1 → bi1.g = some g → False := fun b0 x0 bi0 b1 x1 bi1 q1 q2 q3 q4 q5 q6 q7 => by
      obtain ⟨bi2, q8, q9⟩ := h.heap b1 x1 q5
      rw [q6] at q8; cases q8
      rcases hw'.own b0 bi0 g (by rw [q1]; simp) q2 q3 with k | k
      · exact absurd k (Nat.not_le.2 (q9.lt q7).1)
      · exact holdX b1 x1 bi1 g q4 q5 q6 q7 k
    rcases hcase b x1 e1 with ⟨b0, x0, bj, k1, k2, k3, k4, k5, k6⟩ | ⟨k1, k2, bj, k3, k4, k5⟩ <;> rcases hcase b' x2 e2 with ⟨b0', x0', bj', q1, q2, q3, q4, q5, q6⟩ | ⟨q1, q2, bj', q3, q4, q5⟩
    · rw [h3] at k5; cases k5
      rw [h4] at q5; cases q5
      have := hw'.inj b0 b0' bi bi' g (by rw [k1]; simp) (by rw [q1]; simp) k4 q4 h5 h6
      rw [← k2, ← q2, this]
    · rw [h3] at k5; cases k5
      rw [h4] at q4; cases q4
      exact (clash b0 x0 bi b' x2 bi' k1 k4 h5 q1 q2 q3 h6).elim
    · rw [h3] at k4; cases k4
      rw [h4] at q5; cases q5
      exact (clash b0' x0' bi' b x1 bi q1 q4 h6 k1 k2 k3 h5).elim
    · rw [h3] at k4; cases k4
      rw [h4] at q4; cases q4
      exact h.inj b b' bi bi' g (by rw [k2]; simp) (by rw [q2]; simp) k3 q3 h5 h6
  · obtain ⟨x1, e1⟩ := hget_ne_some h1
    rcases hcase b x1 e1 with ⟨b0, x0, bj, k1, k2, k3, k4, k5, k6⟩ | ⟨k1, k2, bj, k3, k4, k5⟩
    · rw [h2] at k5; cases k5
      rcases hw'.own b0 bi g (by rw [k1]; simp) k4 h3 with k | k
      · exact .inl (Nat.le_trans h.kept.size k)
      · exact (hXm g k).2.1
    · rw [h2] at k4; cases k4
      exact h.own b bi g (by rw [k2]; simp) k3 h3
  · refine ⟨hw'.kept.os.trans h.kept.os, hw'.kept.tape.trans h.kept.tape, hw'.kept.output.trans h.kept.output, Nat.le_trans h.kept.size hsz, fun g hg hx => ?_⟩
    have hnX : g ∉ X := fun hgX => by
      rcases (hXm g hgX).2.1 with k | k
      · exact absurd k (Nat.not_le.2 hg)
      · exact hx k
    exact (hw'.kept.block g (Nat.lt_of_lt_of_le hg h.kept.size) hnX).trans (h.kept.block g hg hx)
  · have := hw'.mle
    show (if b < s.nx then ι b else ι' (ids.length + (b - s.nx))) = none
    simp only at this
    rw [if_neg (by omega)]
    exact hw'.fresh _ (by omega)
  · have := h.mle
    refine h.anc b x hb ?_
    have e : ι2 b = ι b := if_pos (by omega)
    rw [← e]; exact hx
  · refine List.nodup_append.2 ⟨hw'.gsn, h.gsn, fun g hg g' hg' e => ?_⟩
    subst e
    have hMg := (h.gsm g hg').1
    rcases (hw'.gsm g hg).2 with k | k
    · exact hMg (h.msub.none k)
    · exact hMg (hXm g k).1
  · rcases List.mem_append.1 hg with hg | hg
    · refine ⟨(hw'.gsm g hg).1, ?_⟩
      rcases (hw'.gsm g hg).2 with k | k
      · exact .inl (Nat.le_trans h.kept.size k)
      · exact (hXm g k).2.1
    · refine ⟨fun h0 => ?_, (h.gsm g hg).2⟩
      cases hm : M g with
      | none => exact (h.gsm g hg).1 hm
      | some y => rw [hw'.m0 g y hm] at h0; cases h0
end
end Go.Cap
