import Derived.Test.YtghpfcefecedcaaEngB
import Derived.Below
import Derived.ChangeArms
import Derived.ChangeOld
import Derived.Carry
import Derived.OpenShut
/- The engine, part 16: equations for evaluating regions. -/
namespace Go.Cap
open Go
set_option linter.unusedVariables false
set_option linter.unusedSimpArgs false

section
variable {c : Cx} {s s' : St} {K : St → Prop} {d : Nat}

@[go_sem] theorem ev_nil : ev c [] s K = K s := (rfl)
@[go_sem] theorem ev_cons (o : POp) (rest : List GOp) : ev c ((none, o) :: rest) s K = ev1 c o s fun s' => ev c rest s' K := (rfl)
def evG (c : Cx) (v : AV) (g : Nat) (want : Bool) (o : POp) (rest : List GOp) (s : St) (K : St → Prop) : Prop := match v with
  | .r (.b b) => (b = want → ev1 c o { s with sl := (g, .r (.b want)) :: s.sl } fun s' => ev c rest s' K) ∧
        (b = !want → ev c rest (putO { s with sl := (g, .r (.b !want)) :: s.sl } o.dst (.tup [])) K)
  | .tup [] => ev c rest (putO s o.dst (.tup [])) K
  | _ => False
@[go_sem] theorem ev_guard (g : Nat) (want : Bool) (o : POp) (rest : List GOp) : ev c ((some (g, want), o) :: rest) s K = evG c (get s.sl g) g want o rest s K := by
  simp only [ev, evG]
  generalize get s.sl g = v
  cases v with
  | r x => cases x <;> rfl
  | tup l => cases l <;> rfl
  | _ => rfl
@[go_sem] theorem evG_b (b : Bool) (g : Nat) (want : Bool) (o : POp) (rest : List GOp) (sl : List (Nat × AV)) (hp : List (Nat × Blk)) (nx : Nat) (gs : List Nat) : evG c (.r (.b b)) g want o rest ⟨sl, hp, nx, gs⟩ K =
    ((b = want → ev1 c o ⟨(g, .r (.b want)) :: sl, hp, nx, gs⟩ fun s' => ev c rest s' K) ∧ (b = !want → ev c rest (putO ⟨(g, .r (.b !want)) :: sl, hp, nx, gs⟩ o.dst (.tup [])) K)) := rfl
@[go_sem] theorem evG_un (g : Nat) (want : Bool) (o : POp) (rest : List GOp) (sl : List (Nat × AV)) (hp : List (Nat × Blk)) (nx : Nat) (gs : List Nat) : evG c (.tup []) g want o rest ⟨sl, hp, nx, gs⟩ K = ev c rest (putO ⟨sl, hp, nx, gs⟩ o.dst (.tup [])) K := (rfl)
@[go_sem high] theorem evG_tt (g : Nat) (o : POp) (rest : List GOp) (sl : List (Nat × AV)) (hp : List (Nat × Blk)) (nx : Nat) (gs : List Nat) : evG c (.r (.b true)) g true o rest ⟨sl, hp, nx, gs⟩ K =
    ev1 c o ⟨(g, .r (.b true)) :: sl, hp, nx, gs⟩ fun s' => ev c rest s' K := by
  rw [evG_b]; simp
@[go_sem high] theorem evG_ff (g : Nat) (o : POp) (rest : List GOp) (sl : List (Nat × AV)) (hp : List (Nat × Blk)) (nx : Nat) (gs : List Nat) : evG c (.r (.b false)) g false o rest ⟨sl, hp, nx, gs⟩ K =
    ev1 c o ⟨(g, .r (.b false)) :: sl, hp, nx, gs⟩ fun s' => ev c rest s' K := by
  rw [evG_b]; simp
@[go_sem high] theorem evG_tf (g : Nat) (o : POp) (rest : List GOp) (sl : List (Nat × AV)) (hp : List (Nat × Blk)) (nx : Nat) (gs : List Nat) : evG c (.r (.b true)) g false o rest ⟨sl, hp, nx, gs⟩ K =
    ev c rest (putO ⟨(g, .r (.b true)) :: sl, hp, nx, gs⟩ o.dst (.tup [])) K := by
  rw [evG_b]; simp
@[go_sem high] theorem evG_ft (g : Nat) (o : POp) (rest : List GOp) (sl : List (Nat × AV)) (hp : List (Nat × Blk)) (nx : Nat) (gs : List Nat) : evG c (.r (.b false)) g true o rest ⟨sl, hp, nx, gs⟩ K =
    ev c rest (putO ⟨(g, .r (.b false)) :: sl, hp, nx, gs⟩ o.dst (.tup [])) K := by
  rw [evG_b]; simp
theorem evG_congr {v v' : AV} {g : Nat} {want : Bool} {o : POp} {rest : List GOp} (h : v = v') : evG c v g want o rest s K = evG c v' g want o rest s K := by rw [h]
@[go_sem] theorem goQ_val (v : AV) : goQ (.val v) d s K = K (put s d v) := (rfl)
@[go_sem] theorem goQ_need (p : Prop) (v : AV) : goQ (.need p v) d s K = (p ∧ K (put s d v)) := (rfl)
@[go_sem] theorem goQ_asm (p : Prop) (v : AV) : goQ (.asm p v) d s K = (p → K (put s d v)) := (rfl)
@[go_sem] theorem goQ_bad : goQ .bad d s K = False := (rfl)
theorem ev_congr {l : List GOp} (h : s = s') : ev c l s K = ev c l s' K := by rw [h]
theorem ev1_congr {o : POp} (h : s = s') : ev1 c o s K = ev1 c o s' K := by rw [h]
theorem goQ_congr {q q' : QR} (h : q = q') : goQ q d s K = goQ q' d s K := by rw [h]
theorem Call_congr {f : Nat} {a a' : List AV} {K : AV → St → Prop} (h : a = a') (hs : s = s') : Call c f a s K = Call c f a' s' K := by rw [h, hs]
theorem Run_congr {p : PC} {x : Nat → St → Prop} {r : St → Prop} (h : s = s') : Run c p s K x r = Run c p s' K x r := by rw [h]
end
theorem resQ_congr {q q' : QR} {K : AV → Prop} (h : q = q') : resQ q K = resQ q' K := by rw [h]
theorem resK_congr {rs : List RO} {s s' : St} {K : List AV → Prop} (h : s = s') : resK rs s K = resK rs s' K := by rw [h]
attribute [congr] ev_congr evG_congr ev1_congr resQ_congr resK_congr goQ_congr Call_congr Run_congr

section
variable (c : Cx) (sl : List (Nat × AV)) (hp : List (Nat × Blk)) (nx : Nat) (gs : List Nat) (K : St → Prop) (d : Nat)
@[go_sem] theorem e_kp (l : List Nat) : ev1 c (.kp l) ⟨sl, hp, nx, gs⟩ K = K ⟨l.map fun i => (i, get sl i), hp, nx, gs⟩ := (rfl)
@[go_sem] theorem e_mv (x : Opd) : ev1 c (.mv d x) ⟨sl, hp, nx, gs⟩ K = K ⟨(d, x.ev sl) :: sl, hp, nx, gs⟩ := (rfl)
@[go_sem] theorem e_al (z : List RV) : ev1 c (.al d z) ⟨sl, hp, nx, gs⟩ K = K ⟨(d, .ptr nx 0 0) :: sl, (nx, .var (z.map .r)) :: hp, nx + 1, gs⟩ := (rfl)
@[go_sem] theorem e_pk (a x y : Opd) : ev1 c (.pk d a x y) ⟨sl, hp, nx, gs⟩ K = goQ (pick (a.ev sl) (x.ev sl) (y.ev sl)) d ⟨sl, hp, nx, gs⟩ K := (rfl)
@[go_sem] theorem e_bd (z : List RV) (ps : List (Nat × Nat × Opd)) : ev1 c (.bd d z ps) ⟨sl, hp, nx, gs⟩ K = goQ (bldA z (ps.map fun p => (p.1, p.2.1, p.2.2.ev sl))) d ⟨sl, hp, nx, gs⟩ K := (rfl)
@[go_sem] theorem e_ld (sz : Option Nat) (a : Opd) : ev1 c (.ld d sz a) ⟨sl, hp, nx, gs⟩ K = goQ (ldA hp sz (a.ev sl)) d ⟨sl, hp, nx, gs⟩ K := (rfl)
@[go_sem] theorem e_bi (op : BinOp) (x y : Opd) : ev1 c (.bi d op x y) ⟨sl, hp, nx, gs⟩ K = goQ (bin op (x.ev sl) (y.ev sl)) d ⟨sl, hp, nx, gs⟩ K := (rfl)
@[go_sem] theorem e_bb (neg : Bool) (x y : Opd) : ev1 c (.bb d neg x y) ⟨sl, hp, nx, gs⟩ K = goQ (binB neg (x.ev sl) (y.ev sl)) d ⟨sl, hp, nx, gs⟩ K := (rfl)
@[go_sem] theorem e_eqs (neg : Bool) (ks : List RV) (x y : Opd) : ev1 c (.eqs d neg ks x y) ⟨sl, hp, nx, gs⟩ K = goQ (eqAgg ks neg (x.ev sl) (y.ev sl)) d ⟨sl, hp, nx, gs⟩ K := (rfl)
@[go_sem] theorem e_eqn (neg : Bool) (x : Opd) : ev1 c (.eqn d neg x) ⟨sl, hp, nx, gs⟩ K = goQ (eqNil neg (x.ev sl)) d ⟨sl, hp, nx, gs⟩ K := (rfl)
@[go_sem] theorem e_un (op : UnOp) (x : Opd) : ev1 c (.un d op x) ⟨sl, hp, nx, gs⟩ K = goQ (una op (x.ev sl)) d ⟨sl, hp, nx, gs⟩ K := (rfl)
@[go_sem] theorem e_cv (k : IntKind) (x : Opd) : ev1 c (.cv d k x) ⟨sl, hp, nx, gs⟩ K = goQ (conv k (x.ev sl)) d ⟨sl, hp, nx, gs⟩ K := (rfl)
@[go_sem] theorem e_cs (x : Opd) : ev1 c (.cs d x) ⟨sl, hp, nx, gs⟩ K = goQ (strOf hp (x.ev sl)) d ⟨sl, hp, nx, gs⟩ K := (rfl)
@[go_sem] theorem e_fa (off : Nat) (x : Opd) : ev1 c (.fa d off x) ⟨sl, hp, nx, gs⟩ K = goQ (faddr off (x.ev sl)) d ⟨sl, hp, nx, gs⟩ K := (rfl)
@[go_sem] theorem e_ia (sz : Nat) (x i : Opd) : ev1 c (.ia d sz x i) ⟨sl, hp, nx, gs⟩ K = goQ (iaddr hp sz (x.ev sl) (i.ev sl)) d ⟨sl, hp, nx, gs⟩ K := (rfl)
@[go_sem] theorem e_iA (len sz : Nat) (x i : Opd) : ev1 c (.iA d len sz x i) ⟨sl, hp, nx, gs⟩ K = goQ (iaddrA len sz (x.ev sl) (i.ev sl)) d ⟨sl, hp, nx, gs⟩ K := (rfl)
@[go_sem] theorem e_ix (x i : Opd) : ev1 c (.ix d x i) ⟨sl, hp, nx, gs⟩ K = goQ (sidx (x.ev sl) (i.ev sl)) d ⟨sl, hp, nx, gs⟩ K := (rfl)
@[go_sem] theorem e_ex (x : Opd) (i : Nat) : ev1 c (.ex d x i) ⟨sl, hp, nx, gs⟩ K = goQ (extr i (x.ev sl)) d ⟨sl, hp, nx, gs⟩ K := (rfl)
@[go_sem] theorem e_ln (x : Opd) : ev1 c (.ln d x) ⟨sl, hp, nx, gs⟩ K = goQ (lenA (x.ev sl)) d ⟨sl, hp, nx, gs⟩ K := (rfl)
@[go_sem] theorem e_lS (x : Opd) : ev1 c (.lS d x) ⟨sl, hp, nx, gs⟩ K = goQ (lenS (x.ev sl)) d ⟨sl, hp, nx, gs⟩ K := (rfl)
@[go_sem] theorem e_mn (x y : Opd) : ev1 c (.mn d x y) ⟨sl, hp, nx, gs⟩ K = goQ (minA (x.ev sl) (y.ev sl)) d ⟨sl, hp, nx, gs⟩ K := (rfl)
@[go_sem] theorem e_mx (x y : Opd) : ev1 c (.mx d x y) ⟨sl, hp, nx, gs⟩ K = goQ (maxA (x.ev sl) (y.ev sl)) d ⟨sl, hp, nx, gs⟩ K := (rfl)
@[go_sem] theorem e_sS (x : Opd) (lo hi : Option Opd) : ev1 c (.sS d x lo hi) ⟨sl, hp, nx, gs⟩ K = goQ (slicSO (x.ev sl) (bnd sl lo 0) (bnd sl hi (lenI (x.ev sl)))) d ⟨sl, hp, nx, gs⟩ K := (rfl)
@[go_sem] theorem e_sc (sz : Nat) (x : Opd) (lo hi : Option Opd) : ev1 c (.sc d sz x lo hi) ⟨sl, hp, nx, gs⟩ K = goQ (slicO hp sz (x.ev sl) (bnd sl lo 0) (bnd sl hi (lenI (x.ev sl)))) d ⟨sl, hp, nx, gs⟩ K := (rfl)
@[go_sem] theorem e_mf (f : Nat) (caps : List Opd) : ev1 c (.mf d f caps) ⟨sl, hp, nx, gs⟩ K = K ⟨(d, .fn f (caps.map fun x => x.ev sl)) :: sl, hp, nx, gs⟩ := (rfl)
@[go_sem] theorem e_nc (x : Opd) : ev1 c (.nc d x) ⟨sl, hp, nx, gs⟩ K = goQ (nilC (x.ev sl)) d ⟨sl, hp, nx, gs⟩ K := (rfl)
@[go_sem] theorem e_fd (off : Nat) (sz : Option Nat) (x : Opd) : ev1 c (.fd d off sz x) ⟨sl, hp, nx, gs⟩ K = goQ (partA off sz (x.ev sl)) d ⟨sl, hp, nx, gs⟩ K := (rfl)
@[go_sem] theorem e_iv (len : Nat) (x i : Opd) : ev1 c (.iv d len x i) ⟨sl, hp, nx, gs⟩ K = goQ (elemA len (x.ev sl) (i.ev sl)) d ⟨sl, hp, nx, gs⟩ K := (rfl)
@[go_sem] theorem e_ca (o : Option Nat) (f : Nat) (args : List Opd) : ev1 c (.ca o f args) ⟨sl, hp, nx, gs⟩ K = Call c f (args.map fun x => x.ev sl) ⟨sl, hp, nx, gs⟩ (fun r s' => K (putO s' o r)) := (rfl)
end
end Go.Cap

/- The engine, part 17: own slices read by a function; slices that are frozen. -/
namespace Go.Cap
open Go
set_option linter.unusedVariables false
set_option linter.unusedSimpArgs false

section
variable {M : Mem} {ι : Nat → Option BI} {w : World}

/-- A slice of an own block, read as data. -/
theorem view_rr {bi : BI} {b st n sz : Nat} {L : List (List RV)} {v : Value} (hι : ι b = some bi) (hB : Br M ι w bi (.row sz L)) (h : Ar M ι (.sl b st n) v) (hst : st + n ≤ L.length) {M' : Mem} (hm : M.le M')
    (hg : ∀ g arr e, bi.g = some g → w.heap[g]? = some (.cells arr e (0, 0)) → M' g = some (arr, e, (0, 0))) : Rr M' (.ro none ((L.drop st).take n)) v := by
  cases h with
  | slv _ cap sz' h' => simp; exact .emp none 0 (Nat.zero_le _) (fun _ => rfl)
  | sle _ _ a bi' h' => simp; exact .emp a 0 (Nat.zero_le _) (fun _ => rfl)
  | sl _ _ _ c g cap sz' h' hn hc hmx =>
    rw [hι] at h'; cases h'
    obtain ⟨_, arr, e, hgw, hsz, hone, hszs, hcap, hrow, hcs⟩ := hB
    simp only at hszs hcap hsz
    subst hszs
    have hlen : ((L.drop st).take n).length = n := by simp; omega
    have hrows : ∀ r ∈ (L.drop st).take n, r.length = sz := fun r hr => hrow r (List.mem_of_mem_drop (List.mem_of_mem_take hr))
    have hat : ∀ i j, i < n → j < sz → arr[st * sz + (i * sz + j)]? = some (arr.getD (st * sz + (i * sz + j)) undef) := fun i j hi hj => by
      have h1 := idx_lt (i := st + i) (n := cap) (j := j) (sz := sz) (by omega) hj
      have h2 : st * sz + (i * sz + j) < arr.size := by rw [hsz]; rw [Nat.add_mul] at h1; omega
      rw [Array.getElem?_eq_getElem h2]
      simp [Array.getD, h2]
    have main := Rr.ro (M := M') sz ((L.drop st).take n) g (st * sz) c arr e (0, 0) (fun i j => arr.getD (st * sz + (i * sz + j)) undef) (hg g arr e rfl hgw) (by omega) (by omega) hrows
      (fun i j hi hj => hat i j (by omega) hj) (fun i j x hx => by
        obtain ⟨b1, b2⟩ := row_at hrows hx
        rw [hlen] at b1
        rw [List.getElem?_take, if_pos b1, List.getElem?_drop] at hx
        have := hat i j b1 b2
        refine (hcs (st + i) j x _ hx ?_).mono hm
        rw [← this, Nat.add_mul]
        congr 1; omega)
    rw [hlen] at main
    exact main
end

/-- How a function that only reads sees a value. -/
inductive Vw (hp : List (Nat × Blk)) : AV → AV → Prop
  | r (x : RV) : Vw hp (.r x) (.r x)
  | nil : Vw hp (.r .nil) (.r (.ro none []))
  | ro (g : Option Nat) (L : List (List RV)) : Vw hp (.r (.ro g L)) (.r (.ro none L))
  | sl (b st n sz : Nat) (L : List (List RV)) (h : hget hp b = some (.row sz L)) (hn : st + n ≤ L.length) : Vw hp (.sl b st n) (.r (.ro none ((L.drop st).take n)))
  | agg (cs cs' : List AV) (hl : cs'.length = cs.length) (h : ∀ (j : Nat) c c', cs[j]? = some c → cs'[j]? = some c' → Vw hp c c') : Vw hp (.agg cs) (.agg cs')
  | junk (v : AV) : Vw hp v .junk

/-- No part leads anywhere. -/
def flatR : RV → Bool
  | .n .. | .b _ | .s _ => true
  | _ => false
def flatA : AV → Bool
  | .r x => flatR x
  | .agg cs => flatL cs
  | .tup cs => flatL cs
  | .junk => true
  | _ => false
where flatL : List AV → Bool
  | [] => true
  | v :: l => flatA v && flatL l
theorem flatL_get : ∀ {cs : List AV} {j : Nat} {c : AV}, flatA.flatL cs = true → cs[j]? = some c → flatA c = true
  | [], j, c, _, h => by simp at h
  | v :: l, 0, c, hf, h => by simp [flatA.flatL] at hf h; subst h; exact hf.1
  | v :: l, j + 1, c, hf, h => by simp [flatA.flatL] at hf h; exact flatL_get hf.2 h
@[go_sem] theorem flat_n (k : IntKind) (x : Int) : flatA (.r (.n k x)) = true := (rfl)
@[go_sem] theorem flat_b (x : Bool) : flatA (.r (.b x)) = true := (rfl)
@[go_sem] theorem flat_s (x : List UInt8) : flatA (.r (.s x)) = true := (rfl)
@[go_sem] theorem flat_agg (cs : List AV) : flatA (.agg cs) = flatA.flatL cs := (rfl)
@[go_sem] theorem flat_tup (cs : List AV) : flatA (.tup cs) = flatA.flatL cs := (rfl)
@[go_sem] theorem flatL_nil : flatA.flatL [] = true := (rfl)
@[go_sem] theorem flatL_cons (v : AV) (l : List AV) : flatA.flatL (v :: l) = (flatA v && flatA.flatL l) := (rfl)
theorem Ar.flat {M M' : Mem} {ι ι' : Nat → Option BI} {x : AV} {v : Value} (h : Ar M ι x v) : flatA x = true → Ar M' ι' x v := by
  induction h with
  | r x v h => intro hf; cases h <;> simp [flatA, flatR] at hf <;> first | exact .r _ _ (.n _ _) | exact .r _ _ (.b _) | exact .r _ _ (.s _)
  | agg cs vs hl h1 h ih => intro hf; exact .agg cs vs hl h1 fun j c v hc hv => ih j c v hc hv (flatL_get hf hc)
  | tup cs vs hl h ih => intro hf; exact .tup cs vs hl fun j c v hc hv => ih j c v hc hv (flatL_get hf hc)
  | junk v => intro _; exact .junk v
  | ptr => intro hf; cases hf
  | slv => intro hf; cases hf
  | sl => intro hf; cases hf
  | sle => intro hf; cases hf
  | rp => intro hf; cases hf
  | fn => intro hf; cases hf

section
variable {c : Cx} {s : St}

open Classical in
/-- Memory with all own rows of cells taken for fixed. -/
noncomputable def fixed (M : Mem) (ι : Nat → Option BI) (hp : List (Nat × Blk)) (w : World) : Mem := fun g =>
  match M g with
  | some x => some x
  | none => if ∃ b sz L bi, hget hp b = some (.row sz L) ∧ ι b = some bi ∧ bi.g = some g then
      match w.heap[g]? with
      | some (.cells arr e f) => some (arr, e, f)
      | _ => none
    else none

theorem fixed_le (M : Mem) (ι : Nat → Option BI) (hp : List (Nat × Blk)) (w : World) : M.le (fixed M ι hp w) := fun g x hx => by simp [fixed, hx]
theorem fixed_own {M : Mem} {ι : Nat → Option BI} {hp : List (Nat × Blk)} {w : World} {g : Nat} {x : Array Value × TypeId × (Nat × Nat)} (h : fixed M ι hp w g = some x) (hM : M g = none) :
    ∃ b sz L bi, hget hp b = some (.row sz L) ∧ ι b = some bi ∧ bi.g = some g := by
  simp only [fixed, hM] at h
  split at h
  · assumption
  · cases h

theorem Vw.ok {M : Mem} {ι : Nat → Option BI} {hp : List (Nat × Blk)} {w : World} (hH : Hr M ι hp w) {a a0 : AV} (hv : Vw hp a a0) : ∀ {v : Value}, Ar M ι a v → Ar (fixed M ι hp w) (fun _ => none) a0 v := by
  induction hv with
  | r x => intro v h; cases h with | r _ _ h => exact .r _ _ (h.mono (fixed_le _ _ _ _))
  | nil => intro v h; cases h with | r _ _ h => exact .r _ _ (h.mono (fixed_le _ _ _ _)).nil_ro
  | ro g L => intro v h; cases h with | r _ _ h => exact .r _ _ (h.mono (fixed_le _ _ _ _)).weak
  | sl b st n sz L hb hn =>
    intro v h
    obtain ⟨bi, hι, hB⟩ := hH b _ hb
    refine .r _ _ (view_rr hι hB h hn (fixed_le _ _ _ _) fun g arr e hg hw => ?_)
    have hMg := (hB.lt hg).2
    simp only [fixed, hMg]
    rw [if_pos ⟨b, sz, L, bi, hb, hι, hg⟩, hw]
  | agg cs cs' hl h ih =>
    intro v hv
    cases hv with
    | agg _ vs hl' h1 h' =>
      refine .agg cs' vs (by omega) h1 fun j c' u hc' hu => ?_
      have hj : j < cs.length := by have := (List.getElem?_eq_some_iff.1 hc').1; omega
      exact ih j _ c' (List.getElem?_eq_getElem hj) hc' (h' j _ u (List.getElem?_eq_getElem hj) hu)
  | junk a => intro v _; exact .junk v

/-- A call of a function that only reads, with a flat result. -/
theorem call_view {f : Nat} {as0 args : List AV} {Q : AV → List (Nat × Blk) → Nat → List Nat → Prop} {K : AV → St → Prop} (hs : Spec c.P f 0 [] as0 Q)
    (ha : args.length = as0.length ∧ ∀ (j : Nat) a a0, args[j]? = some a → as0[j]? = some a0 → Vw s.hp a a0) (hK : ∀ r hp' nx' gs', Q r hp' nx' gs' → flatA r = true ∧ K r s) : Call c f args s K := by
  intro M ι w h vs hargs
  let Mc := fixed M ι s.hp w
  have hsub : MSub Mc w := fun g arr e fz hg => by
    simp only [Mc, fixed] at hg
    split at hg
    · rename_i x hx; cases hg; exact h.msub g arr e fz hx
    · split at hg
      · split at hg
        · rename_i arr' e' f' hw; cases hg; exact hw
        · cases hg
      · cases hg
  have hw0 : Wr ⟨c.P, w, [], Mc, 0, 0, fun _ => none⟩ Mc (fun _ => none) [] 0 [] w :=
    ⟨hsub, Mem.le_refl _, fun g x hx => .inl hx, fun b x hx => by simp [hget] at hx, fun b b' bi bi' g h1 => by simp [hget] at h1, fun b bi g h1 => by simp [hget] at h1, ⟨rfl, rfl, rfl, Nat.le_refl _, fun _ _ _ => rfl⟩, fun _ _ => rfl, Nat.le_refl _, fun b x hb hx => hx, List.nodup_nil, fun g hg => by cases hg⟩
  have hargs0 : Args Mc (fun _ => none) as0 vs := ⟨by rw [hargs.1]; exact ha.1, fun j a0 v h1 h2 => by
    have hj : j < args.length := by have := (List.getElem?_eq_some_iff.1 h1).1; omega
    exact (ha.2 j _ a0 (List.getElem?_eq_getElem hj) h1).ok h.heap (hargs.2 j _ v (List.getElem?_eq_getElem hj) h2)⟩
  refine (hs Mc _ w [] 0 hw0 vs hargs0).mono fun e w' he => ?_
  obtain ⟨v, r, hp', nx', gs', M', ι', rfl, hr, hQ, hw'⟩ := he
  obtain ⟨hf, hK⟩ := hK r hp' nx' gs' hQ
  have hm0 : Mc.le M' := hw'.m0
  let M2 : Mem := fun g => match M g, Mc g with
    | none, some _ => none
    | _, _ => M' g
  have hle : M.le M2 := fun g x hx => by
    simp only [M2, hx]
    have := fixed_le M ι s.hp w g x hx
    exact hm0 g x this
  have hM2 : ∀ g x, M2 g = some x → M' g = some x ∧ (M g = none → Mc g = none) := fun g x hx => by
    simp only [M2] at hx
    cases h1 : M g with
    | some y => rw [h1] at hx; exact ⟨hx, fun e => by cases e⟩
    | none =>
      rw [h1] at hx
      cases h2 : Mc g with
      | some y => rw [h2] at hx; cases hx
      | none => rw [h2] at hx; exact ⟨hx, fun _ => rfl⟩
  refine ⟨v, r, s.hp, s.nx, s.gs, M2, ι, rfl, hr.flat hf, hK, ?_, hle, fun _ _ h => h⟩
  have hblk : ∀ g, g < w.heap.size → w'.heap[g]? = w.heap[g]? := fun g hg => hw'.kept.block g hg (by simp)
  refine ⟨fun g arr e fz hg => hw'.msub g arr e fz (hM2 _ _ hg).1, Mem.le_trans h.m0 hle, fun g x hx => ?_, fun b x hx => ?_, h.inj, h.own, ?_, h.fresh, h.mle, h.anc, h.gsn, fun g hg => ⟨fun h0 => ?_, (h.gsm g hg).2⟩⟩
  · obtain ⟨h1, h2⟩ := hM2 g x hx
    rcases hw'.mnew g x h1 with k | k | k
    · have k' : Mc g = some x := k
      cases hM : M g with
      | none => rw [h2 hM] at k'; cases k'
      | some y =>
        have := fixed_le M ι s.hp w g y hM
        have e : y = x := by
          have k2 : fixed M ι s.hp w g = some x := k
          rw [this] at k2; cases k2; rfl
        subst e
        exact h.mnew g y hM
    · exact .inr (.inl (Nat.le_trans h.kept.size k))
    · cases k
  · obtain ⟨bi, k1, k2⟩ := h.heap b x hx
    refine ⟨bi, k1, k2.ext hle (fun _ _ h => h) (fun g hg => hblk g (k2.lt hg).1) fun g hg => ?_⟩
    cases hm : M2 g with
    | none => rfl
    | some y =>
      obtain ⟨q1, q2⟩ := hM2 g y hm
      have hMg := (k2.lt hg).2
      rcases hw'.mnew g y q1 with k | k | k
      · have k' : Mc g = some y := k
        rw [q2 hMg] at k'; cases k'
      · exact absurd k (Nat.not_le.2 (k2.lt hg).1)
      · cases k
  · exact ⟨hw'.kept.os.trans h.kept.os, hw'.kept.tape.trans h.kept.tape, hw'.kept.output.trans h.kept.output, Nat.le_trans h.kept.size hw'.kept.size, fun g hg hx => (hblk g (Nat.lt_of_lt_of_le hg h.kept.size)).trans (h.kept.block g hg hx)⟩
  · cases hm : M g with
    | none => exact (h.gsm g hg).1 hm
    | some y => rw [hle g y hm] at h0; cases h0
end
end Go.Cap

/- The engine, part 18: calls that only read, with results in new blocks that hold no references to other memory. -/
namespace Go.Cap
open Go
set_option linter.unusedVariables false
set_option linter.unusedSimpArgs false

def closR : RV → Bool
  | .ro .. => false
  | _ => true
def closA : AV → Bool
  | .r x => closR x
  | .rp .. => false
  | .agg cs => closL cs
  | .tup cs => closL cs
  | .fn _ cs => closL cs
  | _ => true
where closL : List AV → Bool
  | [] => true
  | v :: l => closA v && closL l
def closB : Blk → Prop
  | .var cs => closA.closL cs = true
  | .row _ L => ∀ r ∈ L, ∀ x ∈ r, closR x = true
theorem closL_get : ∀ {cs : List AV} {j : Nat} {c : AV}, closA.closL cs = true → cs[j]? = some c → closA c = true
  | [], j, c, _, h => by simp at h
  | v :: l, 0, c, hf, h => by simp [closA.closL] at hf h; subst h; exact hf.1
  | v :: l, j + 1, c, hf, h => by simp [closA.closL] at hf h; exact closL_get hf.2 h
@[go_sem] theorem clos_n (k : IntKind) (x : Int) : closR (.n k x) = true := (rfl)
@[go_sem] theorem clos_b (x : Bool) : closR (.b x) = true := (rfl)
@[go_sem] theorem clos_s (x : List UInt8) : closR (.s x) = true := (rfl)
@[go_sem] theorem clos_nil : closR .nil = true := (rfl)
@[go_sem] theorem clos_j : closR .j = true := (rfl)
@[go_sem] theorem closA_r (x : RV) : closA (.r x) = closR x := (rfl)
@[go_sem] theorem closA_ptr (b i f : Nat) : closA (.ptr b i f) = true := (rfl)
@[go_sem] theorem closA_sl (b i f : Nat) : closA (.sl b i f) = true := (rfl)
@[go_sem] theorem closA_agg (cs : List AV) : closA (.agg cs) = closA.closL cs := (rfl)
@[go_sem] theorem closA_tup (cs : List AV) : closA (.tup cs) = closA.closL cs := (rfl)
@[go_sem] theorem closL_nil : closA.closL [] = true := (rfl)
@[go_sem] theorem closL_cons (v : AV) (l : List AV) : closA.closL (v :: l) = (closA v && closA.closL l) := (rfl)

theorem Rr.clos {M M' : Mem} {x : RV} {v : Value} (h : Rr M x v) (hc : closR x = true) : Rr M' x v := by
  cases h with
  | n k x => exact .n k x
  | b x => exact .b x
  | s l => exact .s l
  | nil => exact .nil
  | emp => cases hc
  | ro => cases hc
  | own => cases hc
  | j v h => exact .j v h
theorem Ar.clos {M M' : Mem} {ι : Nat → Option BI} {x : AV} {v : Value} (h : Ar M ι x v) : closA x = true → Ar M' ι x v := by
  induction h with
  | r x v h => intro hc; exact .r x v (h.clos hc)
  | ptr b i f g cap sz h => intro _; exact .ptr b i f g cap sz h
  | slv b cap sz h => intro _; exact .slv b cap sz h
  | sl b st n c g cap sz h hn hc hm => intro _; exact .sl b st n c g cap sz h hn hc hm
  | sle b st a bi h => intro _; exact .sle b st a bi h
  | rp => intro hc; cases hc
  | agg cs vs hl h1 h ih => intro hf; exact .agg cs vs hl h1 fun j c v hc hv => ih j c v hc hv (closL_get hf hc)
  | tup cs vs hl h ih => intro hf; exact .tup cs vs hl fun j c v hc hv => ih j c v hc hv (closL_get hf hc)
  | fn f cs vs hl h ih => intro hf; exact .fn f cs vs hl fun j c v hc hv => ih j c v hc hv (closL_get hf hc)
  | junk v => intro _; exact .junk v
theorem Br.clos {M M' : Mem} {ι : Nat → Option BI} {w : World} {bi : BI} {blk : Blk} (h : Br M ι w bi blk) (hc : closB blk) (hn : ∀ g, bi.g = some g → M' g = none) : Br M' ι w bi blk := by
  unfold Br at *
  cases hg : bi.g with
  | none => simpa [hg] using h
  | some g =>
    simp only [hg] at h ⊢
    obtain ⟨h0, arr, e, h1, h2, h3, h4⟩ := h
    refine ⟨hn g hg, arr, e, h1, h2, h3, ?_⟩
    cases blk with
    | var cs => exact ⟨h4.1, h4.2.1, fun j x v hx hv => (h4.2.2 j x v hx hv).clos (closL_get hc hx)⟩
    | row sz L =>
      refine ⟨h4.1, h4.2.1, h4.2.2.1, fun i j x v hx hv => (h4.2.2.2 i j x v hx hv).clos ?_⟩
      cases hi : L[i]? with
      | none => rw [hi] at hx; cases hx
      | some r =>
        rw [hi] at hx
        exact hc r (List.mem_of_getElem? hi) x (List.mem_of_getElem? hx)

section
variable {c : Cx} {s : St}

/-- A call of a function that only reads; its results lie in new blocks, and no part of them leads to other memory. -/
theorem call_cl {f : Nat} {as0 args : List AV} {Q : AV → List (Nat × Blk) → Nat → List Nat → Prop} {K : AV → St → Prop} (hs : Spec c.P f 0 [] as0 Q)
    (ha : args.length = as0.length ∧ ∀ (j : Nat) a a0, args[j]? = some a → as0[j]? = some a0 → Vw s.hp a a0)
    (hK : ∀ r hp' nx' gs', Q r hp' nx' gs' → (closA r = true ∧ ∀ p ∈ hp', closB p.2) ∧ K (renA (s.nx + ·) r) ⟨s.sl, renH (s.nx + ·) hp' ++ s.hp, s.nx + nx', s.gs⟩) : Call c f args s K := by
  intro M ι w h vs hargs
  let Mc := fixed M ι s.hp w
  have hsub : MSub Mc w := fun g arr e fz hg => by
    simp only [Mc, fixed] at hg
    split at hg
    · rename_i x hx; cases hg; exact h.msub g arr e fz hx
    · split at hg
      · split at hg
        · rename_i arr' e' f' hw; cases hg; exact hw
        · cases hg
      · cases hg
  have hw0 : Wr ⟨c.P, w, [], Mc, 0, 0, fun _ => none⟩ Mc (fun _ => none) [] 0 [] w :=
    ⟨hsub, Mem.le_refl _, fun g x hx => .inl hx, fun b x hx => by simp [hget] at hx, fun b b' bi bi' g h1 => by simp [hget] at h1, fun b bi g h1 => by simp [hget] at h1, ⟨rfl, rfl, rfl, Nat.le_refl _, fun _ _ _ => rfl⟩, fun _ _ => rfl, Nat.le_refl _, fun b x hb hx => hx, List.nodup_nil, fun g hg => by cases hg⟩
  have hargs0 : Args Mc (fun _ => none) as0 vs := ⟨by rw [hargs.1]; exact ha.1, fun j a0 v h1 h2 => by
    have hj : j < args.length := by have := (List.getElem?_eq_some_iff.1 h1).1; omega
    exact (ha.2 j _ a0 (List.getElem?_eq_getElem hj) h1).ok h.heap (hargs.2 j _ v (List.getElem?_eq_getElem hj) h2)⟩
  refine (hs Mc _ w [] 0 hw0 vs hargs0).mono fun e w' he => ?_
  obtain ⟨v, r, hp', nx', gs', M', ι', rfl, hr, hQ, hw'⟩ := he
  obtain ⟨⟨hf, hfb⟩, hK⟩ := hK r hp' nx' gs' hQ
  let fn : Nat → Nat := (s.nx + ·)
  have hm0 : Mc.le M' := hw'.m0
  let M2 : Mem := fun g => match M g, Mc g with
    | none, some _ => none
    | _, _ => M' g
  have hle : M.le M2 := fun g x hx => by
    simp only [M2, hx]
    have := fixed_le M ι s.hp w g x hx
    exact hm0 g x this
  have hM2 : ∀ g x, M2 g = some x → M' g = some x ∧ (M g = none → Mc g = none) := fun g x hx => by
    simp only [M2] at hx
    cases h1 : M g with
    | some y => rw [h1] at hx; exact ⟨hx, fun e => by cases e⟩
    | none =>
      rw [h1] at hx
      cases h2 : Mc g with
      | some y => rw [h2] at hx; cases hx
      | none => rw [h2] at hx; exact ⟨hx, fun _ => rfl⟩
  let ι2 : Nat → Option BI := fun b => if b < s.nx then ι b else ι' (b - s.nx)
  have hlow : ∀ b x, ι b = some x → b < s.nx := fun b x hx => by
    rcases Nat.lt_or_ge b s.nx with h1 | h1
    · exact h1
    · rw [h.fresh b h1] at hx; cases hx
  have P2 : ∀ b x, ι b = some x → ι2 b = some x := fun b x hx => by
    show (if b < s.nx then ι b else _) = _
    rw [if_pos (hlow b x hx)]; exact hx
  have P1 : ∀ b x, ι' b = some x → ι2 (fn b) = some x := fun b x hx => by
    show (if s.nx + b < s.nx then ι (s.nx + b) else ι' (s.nx + b - s.nx)) = _
    rw [if_neg (by omega), Nat.add_sub_cancel_left]; exact hx
  have hblk : ∀ g, g < w.heap.size → w'.heap[g]? = w.heap[g]? := fun g hg => hw'.kept.block g hg (by simp)
  have hM2n : ∀ g, M' g = none → M2 g = none := fun g h0 => by
    cases hm : M2 g with
    | none => rfl
    | some y => rw [(hM2 g y hm).1] at h0; cases h0
  have hcase : ∀ b x, hget (renH fn hp' ++ s.hp) b = some x → (∃ b0 x0 bi, hget hp' b0 = some x0 ∧ fn b0 = b ∧ x = renB fn x0 ∧ ι' b0 = some bi ∧ ι2 b = some bi ∧ Br M' ι' w' bi x0) ∨
      (hget s.hp b = some x ∧ ∃ bi, ι b = some bi ∧ ι2 b = some bi ∧ Br M ι w bi x) := fun b x hx => by
    rw [hget_append] at hx
    cases hq : hget (renH fn hp') b with
    | some y =>
      rw [hq] at hx
      cases hx
      obtain ⟨b0, x0, k1, k2, k3⟩ := hget_renH hq
      obtain ⟨bi, q1, q2⟩ := hw'.heap b0 x0 k1
      exact .inl ⟨b0, x0, bi, k1, k2, k3, q1, by rw [← k2]; exact P1 _ _ q1, q2⟩
    | none =>
      rw [hq] at hx
      obtain ⟨bi, q1, q2⟩ := h.heap b x hx
      exact .inr ⟨hx, bi, q1, P2 _ _ q1, q2⟩
  have hold : ∀ bi g x, Br M ι w bi x → bi.g = some g → M2 g = none := fun bi g x k2 hg => by
    cases hm : M2 g with
    | none => rfl
    | some y =>
      obtain ⟨q1, q2⟩ := hM2 g y hm
      have hMg := (k2.lt hg).2
      rcases hw'.mnew g y q1 with k | k | k
      · have k' : Mc g = some y := k
        rw [q2 hMg] at k'; cases k'
      · exact absurd k (Nat.not_le.2 (k2.lt hg).1)
      · cases k
  have hnew : ∀ b0 x0 bi g, hget hp' b0 = some x0 → ι' b0 = some bi → bi.g = some g → w.heap.size ≤ g := fun b0 x0 bi g q1 q2 q3 => by
    rcases hw'.own b0 bi g (by rw [q1]; simp) q2 q3 with k | k
    · exact k
    · cases k
  refine ⟨v, renA fn r, _, _, _, M2, ι2, rfl, (hr.clos hf).push P1, hK, ?_, hle, P2⟩
  refine ⟨fun g arr e fz hg => hw'.msub g arr e fz (hM2 _ _ hg).1, Mem.le_trans h.m0 hle, fun g x hx => ?_, fun b x hx => ?_, fun b b' bi bi' g h1 h2 h3 h4 h5 h6 => ?_, fun b bi g h1 h2 h3 => ?_, ?_, fun b hb => ?_, Nat.le_trans h.mle (Nat.le_add_right _ _), fun b x hb hx => ?_, h.gsn, fun g hg => ⟨fun h0 => ?_, (h.gsm g hg).2⟩⟩
  · obtain ⟨h1, h2⟩ := hM2 g x hx
    rcases hw'.mnew g x h1 with k | k | k
    · have k' : Mc g = some x := k
      cases hM : M g with
      | none => rw [h2 hM] at k'; cases k'
      | some y =>
        have := fixed_le M ι s.hp w g y hM
        have e : y = x := by
          have k2 : fixed M ι s.hp w g = some x := k
          rw [this] at k2; cases k2; rfl
        subst e
        exact h.mnew g y hM
    · exact .inr (.inl (Nat.le_trans h.kept.size k))
    · cases k
  · rcases hcase b x hx with ⟨b0, x0, bi, k1, k2, k3, k4, k5, k6⟩ | ⟨k1, bi, k3, k4, k5⟩
    · refine ⟨bi, k5, k3 ▸ (k6.clos (hfb _ (hget_mem _ _ _ k1)) fun g hg => hM2n g (k6.lt hg).2).push P1⟩
    · exact ⟨bi, k4, k5.ext hle P2 (fun g hg => hblk g (k5.lt hg).1) (fun g hg => hold bi g x k5 hg)⟩
  · obtain ⟨x1, e1⟩ := hget_ne_some h1
    obtain ⟨x2, e2⟩ := hget_ne_some h2
    rcases hcase b x1 e1 with ⟨b0, x0, bj, k1, k2, k3, k4, k5, k6⟩ | ⟨k1, bj, k3, k4, k5⟩ <;> rcases hcase b' x2 e2 with ⟨b0', x0', bj', q1, q2, q3, q4, q5, q6⟩ | ⟨q1, bj', q3, q4, q5⟩
    · rw [h3] at k5; cases k5
      rw [h4] at q5; cases q5
      have := hw'.inj b0 b0' bi bi' g (by rw [k1]; simp) (by rw [q1]; simp) k4 q4 h5 h6
      rw [← k2, ← q2, this]
    · rw [h3] at k5; cases k5
      rw [h4] at q4; cases q4
      exact absurd (hnew b0 x0 bi g k1 k4 h5) (Nat.not_le.2 (q5.lt h6).1)
    · rw [h3] at k4; cases k4
      rw [h4] at q5; cases q5
      exact absurd (hnew b0' x0' bi' g q1 q4 h6) (Nat.not_le.2 (k5.lt h5).1)
    · rw [h3] at k4; cases k4
      rw [h4] at q4; cases q4
      exact h.inj b b' bi bi' g (by rw [k1]; simp) (by rw [q1]; simp) k3 q3 h5 h6
  · obtain ⟨x1, e1⟩ := hget_ne_some h1
    rcases hcase b x1 e1 with ⟨b0, x0, bj, k1, k2, k3, k4, k5, k6⟩ | ⟨k1, bj, k3, k4, k5⟩
    · rw [h2] at k5; cases k5
      exact .inl (Nat.le_trans h.kept.size (hnew b0 x0 bi g k1 k4 h3))
    · rw [h2] at k4; cases k4
      exact h.own b bi g (by rw [k1]; simp) k3 h3
  · exact ⟨hw'.kept.os.trans h.kept.os, hw'.kept.tape.trans h.kept.tape, hw'.kept.output.trans h.kept.output, Nat.le_trans h.kept.size hw'.kept.size, fun g hg hx => (hblk g (Nat.lt_of_lt_of_le hg h.kept.size)).trans (h.kept.block g hg hx)⟩
  · show (if b < s.nx then ι b else ι' (b - s.nx)) = none
    rw [if_neg (by omega)]
    exact hw'.fresh _ (by omega)
  · have := h.mle
    refine h.anc b x hb ?_
    have e : ι2 b = ι b := if_pos (by omega)
    rw [← e]; exact hx
  · cases hm : M g with
    | none => exact (h.gsm g hg).1 hm
    | some y => rw [hle g y hm] at h0; cases h0
end
end Go.Cap

/- The engine, part 19: an own slice is frozen: from here on it is data. -/
namespace Go.Cap
open Go
set_option linter.unusedVariables false
set_option linter.unusedSimpArgs false

def frz (b : Nat) (L : List (List RV)) : AV → AV
  | .ptr b' i f => if b' = b then .junk else .ptr b' i f
  | .sl b' st n => if b' = b then .r (.ro none ((L.drop st).take n)) else .sl b' st n
  | .agg cs => .agg (frzL b L cs)
  | .tup vs => .tup (frzL b L vs)
  | .fn f caps => .fn f (frzL b L caps)
  | v => v
where frzL (b : Nat) (L : List (List RV)) : List AV → List AV
  | [] => []
  | v :: l => frz b L v :: frzL b L l
def frzP (b n0 : Nat) : AV → Prop
  | .sl b' st n => b' = b → st + n ≤ n0
  | .agg cs => frzPL b n0 cs
  | .tup vs => frzPL b n0 vs
  | .fn _ caps => frzPL b n0 caps
  | _ => True
where frzPL (b n0 : Nat) : List AV → Prop
  | [] => True
  | v :: l => frzP b n0 v ∧ frzPL b n0 l
def frzS (b : Nat) (L : List (List RV)) (sl : List (Nat × AV)) : List (Nat × AV) := sl.map fun p => (p.1, frz b L p.2)
def frzB (b : Nat) (L : List (List RV)) : Blk → Blk
  | .var cs => .var (frz.frzL b L cs)
  | .row sz R => .row sz R
def frzH (b : Nat) (L : List (List RV)) (hp : List (Nat × Blk)) : List (Nat × Blk) := hp.map fun p => (p.1, frzB b L p.2)
def frzPS (b n0 : Nat) : List (Nat × AV) → Prop
  | [] => True
  | p :: l => frzP b n0 p.2 ∧ frzPS b n0 l
def frzPB (b n0 : Nat) : Blk → Prop
  | .var cs => frzP.frzPL b n0 cs
  | .row _ _ => True
def frzPH (b n0 : Nat) : List (Nat × Blk) → Prop
  | [] => True
  | p :: l => frzPB b n0 p.2 ∧ frzPH b n0 l

section
variable (b n0 : Nat) (L : List (List RV))
@[go_sem] theorem frz_r (x : RV) : frz b L (.r x) = .r x := (rfl)
@[go_sem] theorem frz_rp (cs : List RV) (f : Nat) : frz b L (.rp cs f) = .rp cs f := (rfl)
@[go_sem] theorem frz_junk : frz b L .junk = .junk := (rfl)
@[go_sem] theorem frz_agg (cs : List AV) : frz b L (.agg cs) = .agg (frz.frzL b L cs) := (rfl)
@[go_sem] theorem frz_tup (cs : List AV) : frz b L (.tup cs) = .tup (frz.frzL b L cs) := (rfl)
@[go_sem] theorem frz_fn (f : Nat) (cs : List AV) : frz b L (.fn f cs) = .fn f (frz.frzL b L cs) := (rfl)
@[go_sem] theorem frz_ptr (b' i f : Nat) : frz b L (.ptr b' i f) = if b' = b then .junk else .ptr b' i f := (rfl)
@[go_sem] theorem frz_sl (b' st n : Nat) : frz b L (.sl b' st n) = if b' = b then .r (.ro none ((L.drop st).take n)) else .sl b' st n := (rfl)
@[go_sem] theorem frzL_nil : frz.frzL b L [] = [] := (rfl)
@[go_sem] theorem frzL_cons (v : AV) (l : List AV) : frz.frzL b L (v :: l) = frz b L v :: frz.frzL b L l := (rfl)
@[go_sem] theorem frzL_map (l : List RV) : frz.frzL b L (l.map .r) = l.map .r := by
  induction l with
  | nil => rfl
  | cons x l ih => simp [frz.frzL, frz, ih]
@[go_sem] theorem frzS_nil : frzS b L [] = [] := (rfl)
@[go_sem] theorem frzS_cons (j : Nat) (v : AV) (l : List (Nat × AV)) : frzS b L ((j, v) :: l) = (j, frz b L v) :: frzS b L l := (rfl)
@[go_sem] theorem frzH_nil : frzH b L [] = [] := (rfl)
@[go_sem] theorem frzH_var (j : Nat) (cs : List AV) (l : List (Nat × Blk)) : frzH b L ((j, .var cs) :: l) = (j, .var (frz.frzL b L cs)) :: frzH b L l := (rfl)
@[go_sem] theorem frzH_row (j sz : Nat) (R : List (List RV)) (l : List (Nat × Blk)) : frzH b L ((j, .row sz R) :: l) = (j, .row sz R) :: frzH b L l := (rfl)
@[go_sem] theorem frzP_r (x : RV) : frzP b n0 (.r x) = True := (rfl)
@[go_sem] theorem frzP_rp (cs : List RV) (f : Nat) : frzP b n0 (.rp cs f) = True := (rfl)
@[go_sem] theorem frzP_junk : frzP b n0 .junk = True := (rfl)
@[go_sem] theorem frzP_ptr (b' i f : Nat) : frzP b n0 (.ptr b' i f) = True := (rfl)
@[go_sem] theorem frzP_agg (cs : List AV) : frzP b n0 (.agg cs) = frzP.frzPL b n0 cs := (rfl)
@[go_sem] theorem frzP_tup (cs : List AV) : frzP b n0 (.tup cs) = frzP.frzPL b n0 cs := (rfl)
@[go_sem] theorem frzP_fn (f : Nat) (cs : List AV) : frzP b n0 (.fn f cs) = frzP.frzPL b n0 cs := (rfl)
@[go_sem] theorem frzP_sl (b' st n : Nat) : frzP b n0 (.sl b' st n) = (b' = b → st + n ≤ n0) := (rfl)
@[go_sem] theorem frzPL_nil : frzP.frzPL b n0 [] = True := (rfl)
@[go_sem] theorem frzPL_cons (v : AV) (l : List AV) : frzP.frzPL b n0 (v :: l) = (frzP b n0 v ∧ frzP.frzPL b n0 l) := (rfl)
@[go_sem] theorem frzPL_map (l : List RV) : frzP.frzPL b n0 (l.map .r) = True := by
  induction l with
  | nil => rfl
  | cons x l ih => simp [frzP.frzPL, frzP, ih]
@[go_sem] theorem frzPS_nil : frzPS b n0 [] = True := (rfl)
@[go_sem] theorem frzPS_cons (j : Nat) (v : AV) (l : List (Nat × AV)) : frzPS b n0 ((j, v) :: l) = (frzP b n0 v ∧ frzPS b n0 l) := (rfl)
@[go_sem] theorem frzPH_nil : frzPH b n0 [] = True := (rfl)
@[go_sem] theorem frzPH_var (j : Nat) (cs : List AV) (l : List (Nat × Blk)) : frzPH b n0 ((j, .var cs) :: l) = (frzP.frzPL b n0 cs ∧ frzPH b n0 l) := (rfl)
@[go_sem] theorem frzPH_row (j sz : Nat) (R : List (List RV)) (l : List (Nat × Blk)) : frzPH b n0 ((j, .row sz R) :: l) = (True ∧ frzPH b n0 l) := (rfl)
theorem frzL_get : ∀ (cs : List AV) (j : Nat), (frz.frzL b L cs)[j]? = (cs[j]?).map (frz b L)
  | [], j => by simp [frz.frzL]
  | x :: cs, 0 => by simp [frz.frzL]
  | x :: cs, j + 1 => by simpa [frz.frzL] using frzL_get cs j
theorem frzL_len : ∀ (cs : List AV), (frz.frzL b L cs).length = cs.length
  | [] => rfl
  | x :: cs => by simp [frz.frzL, frzL_len cs]
theorem frzPL_get : ∀ {cs : List AV} {j : Nat} {c : AV}, frzP.frzPL b n0 cs → cs[j]? = some c → frzP b n0 c
  | [], j, c, _, h => by simp at h
  | v :: l, 0, c, hf, h => by simp at h; subst h; exact hf.1
  | v :: l, j + 1, c, hf, h => by simp at h; exact frzPL_get hf.2 h
theorem get_frzS (sl : List (Nat × AV)) (i : Nat) : get (frzS b L sl) i = frz b L (get sl i) := by
  induction sl with
  | nil => rfl
  | cons p sl ih =>
    obtain ⟨j, v⟩ := p
    simp only [frzS, List.map_cons, get]
    by_cases h : j = i
    · simp [h]
    · simp only [h, if_false]; exact ih
theorem hget_frzH (hp : List (Nat × Blk)) (i : Nat) : hget (frzH b L hp) i = (hget hp i).map (frzB b L) := by
  induction hp with
  | nil => rfl
  | cons p hp ih =>
    obtain ⟨j, v⟩ := p
    simp only [frzH, List.map_cons, hget]
    by_cases h : j = i
    · simp [h]
    · simp only [h, if_false]; exact ih
theorem frzPS_get : ∀ {sl : List (Nat × AV)} {i : Nat}, frzPS b n0 sl → frzP b n0 (get sl i)
  | [], i, _ => trivial
  | (j, v) :: l, i, h => by
    simp only [get]
    split
    · exact h.1
    · exact frzPS_get h.2
theorem frzPH_get : ∀ {hp : List (Nat × Blk)} {i : Nat} {x : Blk}, frzPH b n0 hp → hget hp i = some x → frzPB b n0 x
  | [], i, x, _, h => by simp [hget] at h
  | (j, v) :: l, i, x, hp, h => by
    simp only [hget] at h
    split at h
    · cases h; exact hp.1
    · exact frzPH_get hp.2 h
end

theorem Ar.frz {M M' : Mem} {ι : Nat → Option BI} {w : World} {b sz : Nat} {L : List (List RV)} {bi : BI} (hι : ι b = some bi) (hB : Br M ι w bi (.row sz L)) (hm : M.le M')
    (hg : ∀ g arr e, bi.g = some g → w.heap[g]? = some (.cells arr e (0, 0)) → M' g = some (arr, e, (0, 0))) {x : AV} {v : Value} (h : Ar M ι x v) : frzP b L.length x → Ar M' (del ι b) (Cap.frz b L x) v := by
  induction h with
  | r x v h => intro _; exact .r x v (h.mono hm)
  | ptr b' i f g cap sz h =>
    intro _
    simp only [Cap.frz]
    split
    · exact .junk _
    · rename_i hne; exact .ptr b' i f g cap sz (by rw [del_ne hne]; exact h)
  | slv b' cap sz' h =>
    intro hp
    simp only [Cap.frz]
    split
    · rename_i e; subst e
      exact .r _ _ (view_rr hι hB (.slv b' cap sz' h) (hp rfl) hm hg)
    · rename_i hne; exact .slv b' cap sz' (by rw [del_ne hne]; exact h)
  | sl b' st n c g cap sz' h hn hc hmx =>
    intro hp
    simp only [Cap.frz]
    split
    · rename_i e; subst e
      exact .r _ _ (view_rr hι hB (.sl b' st n c g cap sz' h hn hc hmx) (hp rfl) hm hg)
    · rename_i hne; exact .sl b' st n c g cap sz' (by rw [del_ne hne]; exact h) hn hc hmx
  | sle b' st a bi' h =>
    intro hp
    simp only [Cap.frz]
    split
    · rename_i e; subst e
      exact .r _ _ (view_rr hι hB (.sle b' st a bi' h) (hp rfl) hm hg)
    · rename_i hne; exact .sle b' st a bi' (by rw [del_ne hne]; exact h)
  | rp cs f blk o arr e fr hM hv => intro _; exact .rp cs f blk o arr e fr (hm _ _ hM) fun j x hx => let ⟨v, h1, h2⟩ := hv j x hx; ⟨v, h1, h2.mono hm⟩
  | agg cs vs hl h1 h ih =>
    intro hp
    refine .agg _ vs (by rw [hl, frzL_len]) h1 fun j c v hc hv => ?_
    rw [frzL_get] at hc
    cases hj : cs[j]? with
    | none => rw [hj] at hc; cases hc
    | some c0 => rw [hj] at hc; simp at hc; subst hc; exact ih j c0 v hj hv (frzPL_get b _ hp hj)
  | tup cs vs hl h ih =>
    intro hp
    refine .tup _ vs (by rw [hl, frzL_len]) fun j c v hc hv => ?_
    rw [frzL_get] at hc
    cases hj : cs[j]? with
    | none => rw [hj] at hc; cases hc
    | some c0 => rw [hj] at hc; simp at hc; subst hc; exact ih j c0 v hj hv (frzPL_get b _ hp hj)
  | fn f cs vs hl h ih =>
    intro hp
    refine .fn f _ vs (by rw [hl, frzL_len]) fun j c v hc hv => ?_
    rw [frzL_get] at hc
    cases hj : cs[j]? with
    | none => rw [hj] at hc; cases hc
    | some c0 => rw [hj] at hc; simp at hc; subst hc; exact ih j c0 v hj hv (frzPL_get b _ hp hj)
  | junk v => intro _; exact .junk v

open Classical in
theorem le_frz {c : Cx} {s : St} (b : Nat) {sz : Nat} {L : List (List RV)} (hb : hget s.hp b = some (.row sz L)) (hs : frzPS b L.length s.sl) (hh : frzPH b L.length s.hp) :
    Le c s ⟨frzS b L s.sl, hdel (frzH b L s.hp) b, s.nx, s.gs⟩ := by
  intro M ι a w h
  obtain ⟨bi, hι, hB⟩ := h.wr.heap b _ hb
  let M' : Mem := fun g => if bi.g = some g then (match w.heap[g]? with | some (.cells arr e f) => some (arr, e, f) | _ => none) else M g
  have hMn : ∀ g, bi.g = some g → M g = none := fun g hg => (hB.lt hg).2
  have hm : M.le M' := fun g x hx => by
    have : bi.g ≠ some g := fun e => by rw [hMn g e] at hx; cases hx
    show (if bi.g = some g then _ else M g) = _
    rw [if_neg this]; exact hx
  have hg : ∀ g arr e, bi.g = some g → w.heap[g]? = some (.cells arr e (0, 0)) → M' g = some (arr, e, (0, 0)) := fun g arr e h1 h2 => by
    show (if bi.g = some g then _ else M g) = _
    rw [if_pos h1, h2]
  have hM' : ∀ g x, M' g = some x → M g = some x ∨ bi.g = some g := fun g x hx => by
    by_cases e : bi.g = some g
    · exact .inr e
    · have : M' g = M g := if_neg e
      rw [this] at hx; exact .inl hx
  have key : ∀ i x, hget (hdel (frzH b L s.hp) b) i = some x → i ≠ b ∧ ∃ x0, hget s.hp i = some x0 ∧ x = frzB b L x0 := fun i x hi => by
    rw [hget_hdel, hget_frzH] at hi
    by_cases hib : i = b
    · simp [hib] at hi
    · simp only [hib, if_false] at hi
      cases h0 : hget s.hp i with
      | none => rw [h0] at hi; cases hi
      | some x0 => rw [h0] at hi; simp at hi; exact ⟨hib, x0, rfl, hi.symm⟩
  refine ⟨M', del ι b, ⟨fun g arr e f hx => ?_, Mem.le_trans h.wr.m0 hm, fun g x hx => ?_, fun i x hi => ?_, fun i j bj bk g h1 h2 h3 h4 h5 h6 => ?_, fun i bj g h1 h2 h3 => ?_, h.wr.kept, fun i hi => ?_, h.wr.mle, fun i x hi hx => ?_, h.wr.gsn, fun g hg' => ⟨fun h0 => ?_, (h.wr.gsm g hg').2⟩⟩, fun i => ?_, h.nt, h.df⟩
  · by_cases e1 : bi.g = some g
    · have hx' : (if bi.g = some g then (match w.heap[g]? with | some (.cells arr e f) => some (arr, e, f) | _ => none) else M g) = some (arr, e, f) := hx
      rw [if_pos e1] at hx'
      split at hx'
      · rename_i hw; cases hx'; exact hw
      · cases hx'
    · have : M' g = M g := if_neg e1
      rw [this] at hx; exact h.wr.msub g arr e f hx
  · rcases hM' g x hx with k | k
    · exact h.wr.mnew g x k
    · exact .inr (h.wr.own b bi g (by rw [hb]; simp) hι k)
  · obtain ⟨hne, x0, hx0, rfl⟩ := key i x hi
    obtain ⟨bj, k1, k2⟩ := h.wr.heap i x0 hx0
    refine ⟨bj, by rw [del_ne hne]; exact k1, ?_⟩
    have hnn : ∀ g, bj.g = some g → M' g = none := fun g hg' => by
      have : bi.g ≠ some g := fun e => hne (h.wr.inj i b bj bi g (by rw [hx0]; simp) (by rw [hb]; simp) k1 hι hg' e)
      have e2 : M' g = M g := if_neg this
      rw [e2]; exact (k2.lt hg').2
    unfold Br at k2 ⊢
    cases hgj : bj.g with
    | none =>
      simp only [hgj] at k2 ⊢
      obtain ⟨sz', rfl⟩ := k2
      exact ⟨sz', rfl⟩
    | some g =>
      simp only [hgj] at k2 ⊢
      obtain ⟨h0, arr, e, h1, h2, h3, h4⟩ := k2
      refine ⟨hnn g hgj, arr, e, h1, h2, h3, ?_⟩
      cases x0 with
      | var cs =>
        refine ⟨h4.1, by rw [frzL_len]; exact h4.2.1, fun j y v hy hv => ?_⟩
        rw [frzL_get] at hy
        cases hj : cs[j]? with
        | none => rw [hj] at hy; cases hy
        | some c0 =>
          rw [hj] at hy; simp at hy; subst hy
          exact (h4.2.2 j c0 v hj hv).frz hι hB hm hg (frzPL_get b _ (frzPH_get b _ hh hx0) hj)
      | row sz' R => exact ⟨h4.1, h4.2.1, h4.2.2.1, fun i j x v hx hv => (h4.2.2.2 i j x v hx hv).mono hm⟩
  · obtain ⟨x1, e1⟩ := hget_ne_some h1
    obtain ⟨x2, e2⟩ := hget_ne_some h2
    obtain ⟨n1, y1, q1, _⟩ := key i x1 e1
    obtain ⟨n2, y2, q2, _⟩ := key j x2 e2
    rw [del_ne n1] at h3
    rw [del_ne n2] at h4
    exact h.wr.inj i j bj bk g (by rw [q1]; simp) (by rw [q2]; simp) h3 h4 h5 h6
  · obtain ⟨x1, e1⟩ := hget_ne_some h1
    obtain ⟨n1, y1, q1, _⟩ := key i x1 e1
    rw [del_ne n1] at h2
    exact h.wr.own i bj g (by rw [q1]; simp) h2 h3
  · unfold del
    split
    · rfl
    · exact h.wr.fresh i hi
  · refine h.wr.anc i x hi ?_
    unfold del at hx
    split at hx
    · cases hx
    · exact hx
  · cases hm0 : M g with
    | none => exact (h.wr.gsm g hg').1 hm0
    | some y => rw [hm g y hm0] at h0; cases h0
  · show Ar M' (del ι b) (get (frzS b L s.sl) i) _
    rw [get_frzS]
    exact (h.slots i).frz hι hB hm hg (frzPS_get b _ hs)
end Go.Cap

/- The engine, part 20: from a contract to a call in any world. -/
namespace Go.Cap
open Go Go.RowKit
set_option linter.unusedVariables false
set_option linter.unusedSimpArgs false

/-- All of a world's memory, taken for fixed. -/
def allM (w : World) : Mem := fun g => match w.heap[g]? with
  | some (.cells arr e f) => some (arr, e, f)
  | _ => none
theorem allM_sub (w : World) : MSub (allM w) w := fun g arr e f h => by
  simp only [allM] at h
  split at h
  · rename_i hw; cases h; exact hw
  · cases h

theorem calls_of_spec {P : Program} {f : Nat} {args : List AV} {vs : List Value} {w : World} {v : Value} (hs : Spec P f 0 [] args (fun r _ _ _ => ∀ M ι u, Ar M ι r u → u = v)) (ha : Args (allM w) (fun _ => none) args vs) :
    Calls P f vs.toArray w fun e w' => e = .returned v ∧ Below w.heap.size w w' := by
  have hw0 : Wr ⟨P, w, [], allM w, 0, 0, fun _ => none⟩ (allM w) (fun _ => none) [] 0 [] w :=
    ⟨allM_sub w, Mem.le_refl _, fun g x hx => .inl hx, fun b x hx => by simp [hget] at hx, fun b b' bi bi' g h1 => by simp [hget] at h1, fun b bi g h1 => by simp [hget] at h1, ⟨rfl, rfl, rfl, Nat.le_refl _, fun _ _ _ => rfl⟩, fun _ _ => rfl, Nat.le_refl _, fun b x hb hx => hx, List.nodup_nil, fun g hg => by cases hg⟩
  refine (hs _ _ w [] 0 hw0 vs ha).mono fun e w' he => ?_
  obtain ⟨u, r, hp', nx', gs', M', ι', rfl, hr, hQ, hw'⟩ := he
  exact ⟨by rw [hQ M' ι' u hr], ⟨hw'.kept.os, hw'.kept.tape, hw'.kept.output, hw'.kept.size, fun k hk => hw'.kept.block k hk (by simp)⟩⟩

/-- Bytes that came in. -/
def IsRow (k : IntKind) (w : World) (a : Option Addr) (len cap : Nat) (zs : List Int) : Prop :=
  (a = none ∧ len = 0 ∧ cap = 0 ∧ zs = []) ∨
  ∃ x, a = some x ∧ len ≤ cap ∧ cap ≤ maxLen ∧ zs.length = cap ∧ (∀ i, i < zs.length → w.cell? (x.add i) = some (.int k (zs.getD i 0))) ∧ ∀ n ∈ zs, (Lit.int k n).wf = true

theorem rr_bytes {w : World} {k : IntKind} {a : Option Addr} {len cap : Nat} {zs : List Int} (h : IsRow k w a len cap zs) : Rr (allM w) (.ro none ((zs.take len).map fun n => [.n k n])) (.slice a len cap) := by
  rcases h with ⟨rfl, rfl, rfl, rfl⟩ | ⟨x, rfl, hl, hm, hz, hcell, hwf⟩
  · exact .emp none 0 (Nat.zero_le _) (fun _ => rfl)
  · rcases Nat.eq_zero_or_pos len with h0 | h0
    · subst h0
      simpa using Rr.emp (M := allM w) (some x) cap hm (fun h => by cases h)
    · obtain ⟨b, off, spot⟩ := x
      have h1 := hcell 0 (by omega)
      have hspot : spot = none := by simpa [Addr.add] using World.cell?_spot h1
      subst hspot
      have hcells : ∀ i, i < zs.length → w.cell? ⟨b, off + i, none⟩ = some (.int k (zs.getD i 0)) := fun i hi => by
        have := hcell i hi
        rwa [Addr.add_lit] at this
      obtain ⟨arr, e, f, hw⟩ : ∃ arr e f, w.heap[b]? = some (.cells arr e f) := by
        have := hcells 0 (by omega)
        unfold World.cell? at this
        cases hb : w.heap[b]? with
        | none => simp [hb] at this
        | some o =>
          cases o with
          | cells arr e f => exact ⟨arr, e, f, rfl⟩
          | _ => simp [hb] at this
      have hat : ∀ i, i < zs.length → arr[off + i]? = some (.int k (zs.getD i 0)) := fun i hi => by
        have := hcells i hi
        rwa [cell_at hw] at this
      have hlen : ((zs.take len).map fun n => [RV.n k n]).length = len := by simp; omega
      have main := Rr.ro (M := allM w) 1 ((zs.take len).map fun n => [RV.n k n]) b off cap arr e f (fun i _ => .int k (zs.getD i 0)) (by simp [allM, hw]) (by omega) hm
        (fun r hr => by obtain ⟨n, _, rfl⟩ := List.mem_map.1 hr; rfl)
        (fun i j hi hj => by
          have : j = 0 := by omega
          subst this
          rw [Nat.mul_one, Nat.add_zero]
          exact hat i (by omega))
        (fun i j x hx => by
          rw [List.getElem?_map] at hx
          cases hi : (zs.take len)[i]? with
          | none => rw [hi] at hx; cases hx
          | some n =>
            rw [hi] at hx
            simp at hx
            have hn : zs.getD i 0 = n := by
              rw [List.getElem?_take] at hi
              split at hi
              · rw [List.getD_eq_getElem?_getD, hi]; rfl
              · cases hi
            cases j with
            | zero => simp at hx; subst hx; rw [hn]; exact .n k n
            | succ j => simp at hx)
      rw [hlen] at main
      exact main
end Go.Cap

/- The engine, part 21: an operation asks of a state no more than the slots that it reads. -/
namespace Go.Cap
open Go
set_option linter.unusedVariables false
set_option linter.unusedSimpArgs false

section
variable {sl sl' : List (Nat × AV)}

theorem Opd.ev_congr {x : Opd} (h : ∀ i ∈ x.use, get sl i = get sl' i) : x.ev sl = x.ev sl' := by
  cases x with
  | t i => exact h i (by simp [Opd.use])
  | c v => rfl
  | f i => rfl
  | j => rfl
theorem bnd_congr' {o : Option Opd} {d : Int} (h : ∀ i ∈ optUse o, get sl i = get sl' i) : bnd sl o d = bnd sl' o d := by
  cases o with
  | none => rfl
  | some x => simp only [bnd_some, Opd.ev_congr (x := x) h]

theorem qv_congr {o : POp} {hp : List (Nat × Blk)} (h : ∀ i ∈ o.use, get sl i = get sl' i) : qv o sl hp = qv o sl' hp := by
  cases o with
  | bd d z ps =>
    simp only [qv]
    congr 1
    refine List.map_congr_left fun p hp => ?_
    rw [Opd.ev_congr (x := p.2.2) (sl := sl) (sl' := sl') fun i hi => h i (by simp only [POp.use]; exact List.mem_flatMap.2 ⟨p, hp, hi⟩)]
  | mf d f caps =>
    simp only [qv]
    congr 2
    refine List.map_congr_left fun x hx => ?_
    exact Opd.ev_congr fun i hi => h i (by simp only [POp.use]; exact List.mem_flatMap.2 ⟨x, hx, hi⟩)
  | al d z => rfl
  | bx d x => rfl
  | bs d sz len z ps => rfl
  | st sz a x => rfl
  | ap d sz b x y => rfl
  | mk d sz b z n => rfl
  | ca d f args => rfl
  | cf d f x args => rfl
  | kp l => rfl
  | mv d x => simp only [qv]; rw [Opd.ev_congr (x := x) h]
  | ld d sz x => simp only [qv]; rw [Opd.ev_congr (x := x) h]
  | eqn d neg x => simp only [qv]; rw [Opd.ev_congr (x := x) h]
  | un d op x => simp only [qv]; rw [Opd.ev_congr (x := x) h]
  | cv d k x => simp only [qv]; rw [Opd.ev_congr (x := x) h]
  | cs d x => simp only [qv]; rw [Opd.ev_congr (x := x) h]
  | fa d off x => simp only [qv]; rw [Opd.ev_congr (x := x) h]
  | ex d x i => simp only [qv]; rw [Opd.ev_congr (x := x) h]
  | ln d x => simp only [qv]; rw [Opd.ev_congr (x := x) h]
  | lS d x => simp only [qv]; rw [Opd.ev_congr (x := x) h]
  | nc d x => simp only [qv]; rw [Opd.ev_congr (x := x) h]
  | fd d off sz x => simp only [qv]; rw [Opd.ev_congr (x := x) h]
  | bi d op x y => simp only [POp.use, List.mem_append] at h; simp only [qv]; rw [Opd.ev_congr (x := x) (fun i hi => h i (.inl hi)), Opd.ev_congr (x := y) (fun i hi => h i (.inr hi))]
  | bb d neg x y => simp only [POp.use, List.mem_append] at h; simp only [qv]; rw [Opd.ev_congr (x := x) (fun i hi => h i (.inl hi)), Opd.ev_congr (x := y) (fun i hi => h i (.inr hi))]
  | eqs d neg ks x y => simp only [POp.use, List.mem_append] at h; simp only [qv]; rw [Opd.ev_congr (x := x) (fun i hi => h i (.inl hi)), Opd.ev_congr (x := y) (fun i hi => h i (.inr hi))]
  | ia d sz x y => simp only [POp.use, List.mem_append] at h; simp only [qv]; rw [Opd.ev_congr (x := x) (fun i hi => h i (.inl hi)), Opd.ev_congr (x := y) (fun i hi => h i (.inr hi))]
  | iA d len sz x y => simp only [POp.use, List.mem_append] at h; simp only [qv]; rw [Opd.ev_congr (x := x) (fun i hi => h i (.inl hi)), Opd.ev_congr (x := y) (fun i hi => h i (.inr hi))]
  | ix d x y => simp only [POp.use, List.mem_append] at h; simp only [qv]; rw [Opd.ev_congr (x := x) (fun i hi => h i (.inl hi)), Opd.ev_congr (x := y) (fun i hi => h i (.inr hi))]
  | mn d x y => simp only [POp.use, List.mem_append] at h; simp only [qv]; rw [Opd.ev_congr (x := x) (fun i hi => h i (.inl hi)), Opd.ev_congr (x := y) (fun i hi => h i (.inr hi))]
  | mx d x y => simp only [POp.use, List.mem_append] at h; simp only [qv]; rw [Opd.ev_congr (x := x) (fun i hi => h i (.inl hi)), Opd.ev_congr (x := y) (fun i hi => h i (.inr hi))]
  | iv d len x y => simp only [POp.use, List.mem_append] at h; simp only [qv]; rw [Opd.ev_congr (x := x) (fun i hi => h i (.inl hi)), Opd.ev_congr (x := y) (fun i hi => h i (.inr hi))]
  | pk d c x y =>
    simp only [POp.use, List.mem_append] at h; simp only [qv]
    rw [Opd.ev_congr (x := c) (fun i hi => h i (.inl (.inl hi))), Opd.ev_congr (x := x) (fun i hi => h i (.inl (.inr hi))), Opd.ev_congr (x := y) (fun i hi => h i (.inr hi))]
  | sc d sz x lo hi =>
    simp only [POp.use, List.mem_append] at h; simp only [qv]
    rw [Opd.ev_congr (x := x) (fun i hi => h i (.inl (.inl hi))), bnd_congr' (o := lo) (fun i hi => h i (.inl (.inr hi))), bnd_congr' (o := hi) (fun i hi => h i (.inr hi))]
  | sS d x lo hi =>
    simp only [POp.use, List.mem_append] at h; simp only [qv]
    rw [Opd.ev_congr (x := x) (fun i hi => h i (.inl (.inl hi))), bnd_congr' (o := lo) (fun i hi => h i (.inl (.inr hi))), bnd_congr' (o := hi) (fun i hi => h i (.inr hi))]
end

/-- Two states that agree but for the slots of 'D'. -/
structure Sim (D : List Nat) (s t : St) : Prop where
  hp : s.hp = t.hp
  nx : s.nx = t.nx
  gs : s.gs = t.gs
  sl : ∀ i, i ∉ D → get s.sl i = get t.sl i
theorem Sim.refl (D : List Nat) (s : St) : Sim D s s := ⟨rfl, rfl, rfl, fun _ _ => rfl⟩
theorem Sim.symm {D : List Nat} {s t : St} (h : Sim D s t) : Sim D t s := ⟨h.hp.symm, h.nx.symm, h.gs.symm, fun i hi => (h.sl i hi).symm⟩
theorem Sim.trans {D : List Nat} {s t u : St} (h : Sim D s t) (k : Sim D t u) : Sim D s u := ⟨h.hp.trans k.hp, h.nx.trans k.nx, h.gs.trans k.gs, fun i hi => (h.sl i hi).trans (k.sl i hi)⟩
theorem Sim.put {D : List Nat} {s t : St} (h : Sim D s t) (d : Nat) (v : AV) : Sim D (Cap.put s d v) (Cap.put t d v) := ⟨h.hp, h.nx, h.gs, fun i hi => by
  simp only [get_put]
  split
  · rfl
  · exact h.sl i hi⟩
theorem Sim.putO {D : List Nat} {s t : St} (h : Sim D s t) (d : Option Nat) (v : AV) : Sim D (Cap.putO s d v) (Cap.putO t d v) := by
  cases d with
  | none => exact h
  | some d => exact h.put d v

section
variable {c : Cx} {D : List Nat} {s t : St} {K : St → Prop}

theorem goQ_frame {q : QR} {d : Nat} (h : Sim D s t) (he : goQ q d s K) : goQ q d t fun t' => ∃ s', K s' ∧ Sim D s' t' := by
  cases q with
  | val v => exact ⟨_, he, h.put d v⟩
  | need p v => exact ⟨he.1, _, he.2, h.put d v⟩
  | asm p v => exact fun hp => ⟨_, he hp, h.put d v⟩
  | bad => exact he.elim

theorem ev1_frame {o : POp} (hk : ∀ l, o ≠ .kp l) (h : Sim D s t) (hu : ∀ i ∈ o.use, i ∉ D) (he : ev1 c o s K) : ev1 c o t fun t' => ∃ s', K s' ∧ Sim D s' t' := by
  have hsl : ∀ i ∈ o.use, get s.sl i = get t.sl i := fun i hi => h.sl i (hu i hi)
  obtain ⟨sl, hp, nx, gs⟩ := s
  obtain ⟨sl', hp', nx', gs'⟩ := t
  obtain ⟨e1, e2, e3, e4⟩ := h
  simp only at e1 e2 e3
  subst e1; subst e2; subst e3
  have hh : Sim D ⟨sl, hp, nx, gs⟩ ⟨sl', hp, nx, gs⟩ := ⟨rfl, rfl, rfl, e4⟩
  have quiet : ∀ d, goQ (qv o sl hp) d ⟨sl, hp, nx, gs⟩ K → goQ (qv o sl' hp) d ⟨sl', hp, nx, gs⟩ fun t' => ∃ s', K s' ∧ Sim D s' t' := fun d hg => by
    rw [← qv_congr (o := o) (hp := hp) hsl]
    exact goQ_frame hh hg
  have conses : ∀ (x y : List (Nat × AV)) (l : List (Nat × Blk)) (n : Nat) (d : Nat) (v : AV), (∀ i, i ∉ D → get x i = get y i) → Sim D ⟨(d, v) :: x, l, n, gs⟩ ⟨(d, v) :: y, l, n, gs⟩ := fun x y l n d v hxy =>
    ⟨rfl, rfl, rfl, fun i hi => by
      simp only [get]
      split
      · rfl
      · exact hxy i hi⟩
  have opd : ∀ x : Opd, (∀ i ∈ x.use, get sl i = get sl' i) → x.ev sl' = x.ev sl := fun x hx => (Opd.ev_congr hx).symm
  cases o with
  | kp l => exact absurd rfl (hk l)
  | al d z => exact ⟨_, he, conses _ _ _ _ _ _ e4⟩
  | bx d x =>
    simp only [ev1, opd x hsl] at he ⊢
    split at he
    · rename_i cs hcs
      exact ⟨_, he, conses _ _ _ _ _ _ e4⟩
    · exact he.elim
  | bs d sz len z ps =>
    have e : (ps.map fun p => (p.1, p.2.ev sl')) = ps.map fun p => (p.1, p.2.ev sl) := List.map_congr_left fun p hp => by
      rw [opd p.2 fun i hi => hsl i (by simp only [POp.use]; exact List.mem_flatMap.2 ⟨p, hp, hi⟩)]
    simp only [ev1, e] at he ⊢
    split at he
    · exact ⟨_, he, conses _ _ _ _ _ _ e4⟩
    · exact he.elim
  | st sz a x =>
    simp only [POp.use, List.mem_append] at hsl
    simp only [ev1, opd a fun i hi => hsl i (.inl hi), opd x fun i hi => hsl i (.inr hi)] at he ⊢
    split at he
    case h_2 => exact he.elim
    rename_i b i f vs h1 h2
    refine ⟨he.1, ?_⟩
    replace he := he.2
    split at he
    · exact ⟨he.1, _, he.2, ⟨rfl, rfl, rfl, e4⟩⟩
    · split at he
      · exact ⟨he.1, _, he.2, ⟨rfl, rfl, rfl, e4⟩⟩
      · exact he.elim
    · exact he.elim
  | ap d sz bytes x y =>
    simp only [POp.use, List.mem_append] at hsl
    simp only [ev1, opd x fun i hi => hsl i (.inl hi), opd y fun i hi => hsl i (.inr hi)] at he ⊢
    have hkill : ∀ b i, i ∉ D → get (killS b sl) i = get (killS b sl') i := fun b i hi => by rw [get_killS, get_killS, e4 i hi]
    split at he
    case h_2 => exact he.elim
    rename_i p news hn
    split at he
    · refine ⟨he.1, ?_⟩
      replace he := he.2
      split at he
      · refine ⟨he.1, he.2.1, ?_⟩
        replace he := he.2.2
        split at he
        · rename_i hlt; rw [if_pos hlt]; exact ⟨_, he, conses _ _ _ _ _ _ (hkill _)⟩
        · rename_i hlt; rw [if_neg hlt]; exact ⟨_, he, conses _ _ _ _ _ _ (hkill _)⟩
      · exact he.elim
    · exact ⟨he.1, _, he.2, conses _ _ _ _ _ _ e4⟩
    · exact he.elim
  | mk d sz bytes z n =>
    simp only [ev1, opd n hsl] at he ⊢
    split at he
    · exact ⟨he.1, _, he.2, conses _ _ _ _ _ _ e4⟩
    · exact he.elim
  | ca d f args =>
    have e : (args.map fun x => x.ev sl') = args.map fun x => x.ev sl := List.map_congr_left fun x hx => opd x fun i hi => hsl i (by simp only [POp.use]; exact List.mem_flatMap.2 ⟨x, hx, hi⟩)
    simp only [ev1, e] at he ⊢
    intro M ι w hw vs hargs
    refine (he M ι w hw vs hargs).mono fun e w' hq => ?_
    obtain ⟨v, r, hp', nx', gs', M', ι', h1, h2, h3, h4, h5, h6⟩ := hq
    exact ⟨v, r, hp', nx', gs', M', ι', h1, h2, ⟨_, h3, Sim.putO (s := ⟨sl, hp', nx', gs'⟩) (t := ⟨sl', hp', nx', gs'⟩) ⟨rfl, rfl, rfl, e4⟩ d r⟩, h4, h5, h6⟩
  | cf d f' x args =>
    simp only [POp.use, List.mem_append] at hsl
    have e : (args.map fun x => x.ev sl') = args.map fun x => x.ev sl := List.map_congr_left fun x hx => opd x fun i hi => hsl i (.inr (List.mem_flatMap.2 ⟨x, hx, hi⟩))
    simp only [ev1, e, opd x fun i hi => hsl i (.inl hi)] at he ⊢
    split at he
    · refine ⟨he.1, ?_⟩
      intro M ι w hw vs hargs
      refine (he.2 M ι w hw vs hargs).mono fun e w' hq => ?_
      obtain ⟨v, r, hp', nx', gs', M', ι', h1, h2, h3, h4, h5, h6⟩ := hq
      exact ⟨v, r, hp', nx', gs', M', ι', h1, h2, ⟨_, h3, Sim.putO (s := ⟨sl, hp', nx', gs'⟩) (t := ⟨sl', hp', nx', gs'⟩) ⟨rfl, rfl, rfl, e4⟩ d r⟩, h4, h5, h6⟩
    · exact he.elim
  | mv d x => exact quiet d he
  | pk d c a b => exact quiet d he
  | bd d z ps => exact quiet d he
  | ld d sz a => exact quiet d he
  | bi d op x y => exact quiet d he
  | bb d neg x y => exact quiet d he
  | eqs d neg ks x y => exact quiet d he
  | eqn d neg x => exact quiet d he
  | un d op x => exact quiet d he
  | cv d k x => exact quiet d he
  | cs d x => exact quiet d he
  | fa d off x => exact quiet d he
  | ia d sz x i => exact quiet d he
  | iA d len sz x i => exact quiet d he
  | ix d x i => exact quiet d he
  | ex d x i => exact quiet d he
  | ln d x => exact quiet d he
  | lS d x => exact quiet d he
  | mn d x y => exact quiet d he
  | mx d x y => exact quiet d he
  | sc d sz x lo hi => exact quiet d he
  | sS d x lo hi => exact quiet d he
  | mf d f caps => exact quiet d he
  | nc d x => exact quiet d he
  | fd d off sz x => exact quiet d he
  | iv d len x i => exact quiet d he
end
end Go.Cap

/- The engine, part 22: a region whose operations may come in more than one order does what the moves say. -/
namespace Go.Cap
open Go
set_option linter.unusedSimpArgs false
set_option linter.unusedVariables false

def Yq : QR → AV → Prop
  | .val x, v => x = v
  | .need p x, v => p ∧ x = v
  | .asm _ x, v => x = v
  | .bad, _ => False
def dstV (g : GOp) (s : St) : AV := match g.2.dst with
  | some d => get s.sl d
  | none => .junk
def rcG (v : AV) (want : Bool) (q : QR) (x : AV) : Prop := match v with
  | .r (.b b) => (b = want → Yq q x) ∧ (b = !want → x = .tup [])
  | .tup [] => x = .tup []
  | _ => False
/-- A quiet operation yields a value here. -/
def yq (g : GOp) (s : St) (v : AV) : Prop := match g.1 with
  | none => Yq (qv g.2 s.sl s.hp) v
  | some (x, want) => rcG (get s.sl x) want (qv g.2 s.sl s.hp) v
def rc (g : GOp) (s : St) : Prop := yq g s (dstV g s)
def rcM : List Bool → List (Nat × GOp) → St → Prop
  | true :: m, (_, g) :: l, s => rc g s ∧ rcM m l s
  | false :: m, _ :: l, s => rcM m l s
  | _, _, _ => True
def evT (c : Cx) (K : St → Prop) : List (Nat × GOp) → OT → St → Prop
  | _, .done, s => K s
  | pend, .q i g t, s => ev c [g] s fun s' => evT c K (pend ++ [(i, g)]) t s'
  | pend, .alt _ g m t more, s => (ev c [g] s fun s' => rcM m pend s' ∧ evT c K pend t s') ∧ evT c K pend more s
  | _, .stop, _ => True
/-- Quiet operations, one after the other. -/
def exU : List (Nat × GOp) → St → St → Prop
  | [], t, s => Sim [] t s
  | (_, g) :: U, t, s => ∃ d v, g.2.dst = some d ∧ yq g t v ∧ exU U (put t d v) s
def dsts : List (Nat × GOp) → List Nat
  | [] => []
  | (_, g) :: U => g.2.dst.toList ++ dsts U

section
variable {c : Cx} {s t : St}

theorem Sim.mono {D D' : List Nat} (h : Sim D s t) (hd : ∀ i ∈ D, i ∈ D') : Sim D' s t := ⟨h.hp, h.nx, h.gs, fun i hi => h.sl i fun h' => hi (hd i h')⟩
theorem Sim.put2 {D : List Nat} {d : Nat} {v : AV} (h : Sim D (Cap.put s d v) t) : Sim (d :: D) s t := ⟨h.hp, h.nx, h.gs, fun i hi => by
  simp only [List.mem_cons, not_or] at hi
  have := h.sl i hi.2
  simp only [get_put] at this
  rwa [if_neg (fun e => hi.1 e.symm)] at this⟩
theorem put_comm (s : St) {d e : Nat} (h : d ≠ e) (v u : AV) : Sim [] (put (put s d v) e u) (put (put s e u) d v) := ⟨rfl, rfl, rfl, fun i _ => by
  simp only [get_put]
  by_cases h1 : e = i <;> by_cases h2 : d = i <;> simp [h1, h2]
  subst h1; exact absurd h2 h⟩

theorem guse_use {g : GOp} {i : Nat} (h : i ∈ g.2.use) : i ∈ guse g := by
  obtain ⟨x, p⟩ := g
  cases x with
  | none => exact h
  | some y => obtain ⟨a, b⟩ := y; exact List.mem_cons_of_mem _ h

theorem yq_congr {g : GOp} {D : List Nat} {v : AV} (h : Sim D s t) (hu : ∀ i ∈ guse g, i ∉ D) (hy : yq g s v) : yq g t v := by
  obtain ⟨x, p⟩ := g
  have e : qv p s.sl s.hp = qv p t.sl t.hp := by
    rw [← h.hp]
    exact qv_congr fun i hi => h.sl i (hu i (guse_use (g := (x, p)) hi))
  cases x with
  | none => simp only [yq] at hy ⊢; rw [← e]; exact hy
  | some y =>
    obtain ⟨a, b⟩ := y
    simp only [yq] at hy ⊢
    rw [← e, ← h.sl a (hu a (by simp [guse]))]; exact hy

theorem exU_sim : ∀ {U : List (Nat × GOp)} {t t' s : St}, Sim [] t t' → exU U t s → exU U t' s
  | [], t, t', s, h, k => h.symm.trans k
  | (_, g) :: U, t, t', s, h, ⟨d, v, h1, h2, h3⟩ => ⟨d, v, h1, yq_congr h (fun _ _ => by simp) h2, exU_sim (h.put d v) h3⟩
theorem exU_simR : ∀ {U : List (Nat × GOp)} {t s s' : St}, exU U t s → Sim [] s s' → exU U t s'
  | [], t, s, s', h, k => Sim.trans h k
  | (_, g) :: U, t, s, s', ⟨d, v, h1, h2, h3⟩, k => ⟨d, v, h1, h2, exU_simR h3 k⟩
theorem exU_dsts : ∀ {U : List (Nat × GOp)} {t s : St}, exU U t s → Sim (dsts U) t s
  | [], t, s, h => h
  | (_, g) :: U, t, s, ⟨d, v, h1, h2, h3⟩ => by
    have := (exU_dsts h3).put2
    simpa [dsts, h1] using this
theorem exU_snoc : ∀ {U : List (Nat × GOp)} {t s : St} {i d : Nat} {g : GOp} {v : AV}, exU U t s → g.2.dst = some d → yq g s v → exU (U ++ [(i, g)]) t (put s d v)
  | [], t, s, i, d, g, v, h, hd, hy => ⟨d, v, hd, yq_congr (Sim.symm h) (fun _ _ => by simp) hy, Sim.put h d v⟩
  | (_, g) :: U, t, s, i, d, _, v, ⟨e, u, h1, h2, h3⟩, hd, hy => ⟨e, u, h1, h2, exU_snoc h3 hd hy⟩

/-- What the check of a taken operation says of an earlier and a later one. -/
structure Apt (ops : Array Oper) (A : List (List Nat)) (u v : Nat × GOp) : Prop where
  use : ∀ d, v.2.2.dst = some d → d ∉ guse u.2
  dst : u.2.2.dst ≠ v.2.2.dst
  anc : u.1 ∈ A.getD v.1 [] ∨ ∀ d, u.2.2.dst = some d → d ∉ guse v.2
  dep : v.1 ∉ bdeps ops u.1
structure One (P : Program) (nt : Nat) (ops : Array Oper) (u : Nat × GOp) : Prop where
  ok : okOp P nt ops u.1 u.2 = true
  qt : u.2.2.quiet = true
  dst : ∃ d, u.2.2.dst = some d ∧ d ∉ guse u.2
  dep : u.1 ∉ bdeps ops u.1

theorem mem_dsts : ∀ {U : List (Nat × GOp)} {d : Nat}, d ∈ dsts U → ∃ u ∈ U, u.2.2.dst = some d
  | [], d, h => by simp [dsts] at h
  | (i, g) :: U, d, h => by
    simp only [dsts, List.mem_append, Option.mem_toList] at h
    rcases h with h | h
    · exact ⟨(i, g), by simp, h⟩
    · obtain ⟨u, hu, hd⟩ := mem_dsts h
      exact ⟨u, List.mem_cons_of_mem _ hu, hd⟩

theorem exU_rebuild {P : Program} {nt : Nat} {ops : Array Oper} {A : List (List Nat)} : ∀ {U : List (Nat × GOp)} {t' s' : St}, U.Pairwise (Apt ops A) → (∀ u ∈ U, One P nt ops u) → (∀ u ∈ U, rc u.2 s') → Sim (dsts U) s' t' → exU U t' s'
  | [], t', s', _, _, _, h => h.symm
  | (i, g) :: U, t', s', hp, h1, hr, h => by
    obtain ⟨d, hd, hdu⟩ := (h1 (i, g) (by simp)).dst
    simp only at hd hdu
    have hp1 := List.pairwise_cons.1 hp
    have hrc := hr (i, g) (by simp)
    have hnot : ∀ k ∈ guse g, k ∉ dsts ((i, g) :: U) := fun k hk hm => by
      simp only [dsts, hd, Option.toList_some, List.mem_append, List.mem_singleton] at hm
      rcases hm with hm | hm
      · subst hm; exact hdu hk
      · obtain ⟨u, hu, hud⟩ := mem_dsts hm
        exact (hp1.1 u hu).use k hud hk
    refine ⟨d, get s'.sl d, hd, yq_congr h hnot ?_, exU_rebuild hp1.2 (fun u hu => h1 u (List.mem_cons_of_mem _ hu)) (fun u hu => hr u (List.mem_cons_of_mem _ hu)) ?_⟩
    · have hrc' : yq g s' (dstV g s') := hrc
      simpa [dstV, hd] using hrc'
    · refine ⟨h.hp, h.nx, h.gs, fun k hk => ?_⟩
      simp only [get_put]
      split
      · rename_i e; rw [e]
      · rename_i e
        refine h.sl k fun hm => ?_
        simp only [dsts, hd, Option.toList_some, List.mem_append, List.mem_singleton] at hm
        rcases hm with hm | hm
        · exact e hm.symm
        · exact hk hm

theorem exU_pull {j d : Nat} {g : GOp} (hd : g.2.dst = some d) (hdg : d ∉ guse g) : ∀ {A B : List (Nat × GOp)} {t s : St}, (∀ u ∈ A, (∀ e, u.2.2.dst = some e → e ∉ guse g ∧ e ≠ d) ∧ d ∉ guse u.2) → exU (A ++ (j, g) :: B) t s →
    ∃ v, yq g t v ∧ exU (A ++ B) (put t d v) s
  | [], B, t, s, _, ⟨e, v, h1, h2, h3⟩ => by
    rw [hd] at h1; cases h1
    exact ⟨v, h2, h3⟩
  | (i, gu) :: A, B, t, s, hA, ⟨e, v, h1, h2, h3⟩ => by
    obtain ⟨w, h4, h5⟩ := exU_pull hd hdg (A := A) (B := B) (fun u hu => hA u (List.mem_cons_of_mem _ hu)) h3
    obtain ⟨k1, k2⟩ := hA (i, gu) (by simp)
    obtain ⟨k3, k4⟩ := k1 e h1
    have s1 : Sim [e] (put t e v) t := ⟨rfl, rfl, rfl, fun i hi => by
      simp only [List.mem_singleton] at hi
      simp only [get_put]; rw [if_neg (fun e => hi e.symm)]⟩
    have s2 : Sim [d] t (put t d w) := ⟨rfl, rfl, rfl, fun i hi => by
      simp only [List.mem_singleton] at hi
      simp only [get_put]; rw [if_neg (fun e => hi e.symm)]⟩
    refine ⟨w, yq_congr s1 (fun i hi hm => ?_) h4, e, v, h1, yq_congr s2 (fun i hi hm => ?_) h2, exU_sim (put_comm t k4 v w) h5⟩
    · simp only [List.mem_singleton] at hm; subst hm; exact k3 hi
    · simp only [List.mem_singleton] at hm; subst hm; exact k2 hi

/-- One operation of a region, with its guard. -/
theorem ev_frame {g : GOp} {D : List Nat} {K : St → Prop} (hk : ∀ l, g.2 ≠ .kp l) (h : Sim D s t) (hu : ∀ i ∈ guse g, i ∉ D) (he : ev c [g] s K) : ev c [g] t fun t' => ∃ s', K s' ∧ Sim D s' t' := by
  obtain ⟨x, p⟩ := g
  cases x with
  | none => exact ev1_frame hk h (fun i hi => hu i hi) he
  | some y =>
    obtain ⟨a, want⟩ := y
    have ha := h.sl a (hu a (by simp [guse]))
    simp only [ev, ← ha] at he ⊢
    split at he
    case h_3 => exact he.elim
    case h_2 => exact ⟨_, he, h.putO _ _⟩
    rename_i b hb
    refine ⟨fun hbw => ?_, fun hbw => ?_⟩
    · exact ev1_frame hk (h.put a _) (fun i hi => hu i (guse_use (g := (some (a, want), p)) hi)) (he.1 hbw)
    · exact ⟨_, he.2 hbw, (h.put a _).putO _ _⟩

theorem okOp_spec {i : Nat} {g : GOp} {ops : Array Oper} (h : okOp c.P c.nt ops i g = true) : ∃ o, ops[i]? = some o ∧ guardC ops g.1 o.guard = true ∧ dstLt c.nt g.2.dst = true ∧ chk c.P g.2 o = true ∧ ∀ l, g.2 ≠ .kp l := by
  unfold okOp at h
  split at h
  · rename_i o ho
    simp only [Bool.and_eq_true] at h
    refine ⟨o, ho, h.1.1, h.1.2, h.2, fun l e => ?_⟩
    have := h.2
    rw [e] at this
    simp [chk, chkOp] at this
  · cases h

theorem op_ok {i : Nat} {g : GOp} {ops : Array Oper} {K : St → Prop} {M : Mem} {ι : Nat → Option BI} {a : Act} {w : World} {Q : Exit → Act → World → Prop} (hc : okOp c.P c.nt ops i g = true) (h : Sr c M ι s a w) (he : ev c [g] s K)
    {next : Act → World → Prop} (hn : ∀ s' M' ι' a' w', K s' → Sr c M' ι' s' a' w' → next a' w') : wpOp c.P ops Q i next a w := by
  obtain ⟨o, ho, hg, hd, hp, hk⟩ := okOp_spec hc
  obtain ⟨x, p⟩ := g
  simp only at hg hd hp hk
  unfold wpOp
  rw [ho]
  simp only
  cases x with
  | none =>
    have hog : o.guard = none := by
      cases ho : o.guard with
      | none => rfl
      | some x => rw [ho] at hg; simp [guardC] at hg
    have hw : Region.wanted o (yielded ops a.tmps) = true := by simp [Region.wanted, hog]
    rw [if_pos hw]
    have he' : ev1 c p s K := he
    exact .inl (ev1_any h hp hd hk he' _ _ hn)
  | some gb =>
    obtain ⟨g, want⟩ := gb
    cases hog : o.guard with
    | none => rw [hog] at hg; simp [guardC] at hg
    | some jb =>
      obtain ⟨j, want'⟩ := jb
      rw [hog] at hg
      simp only [guardC, Bool.and_eq_true, beq_iff_eq] at hg
      obtain ⟨rfl, hg⟩ := hg
      split at hg
      case h_2 => cases hg
      rename_i oj hoj
      have hdj : oj.dst = some g := by simpa using hg
      have hpd : p.dst = o.dst := by
        simp only [chk, Bool.and_eq_true, decide_eq_true_eq] at hp; exact hp.1
      simp only [ev] at he
      split at he
      case h_3 => exact he.elim
      case h_2 =>
        rename_i hb
        have hy : yielded ops a.tmps j = none := by
          rcases slot_un h hb with e | e <;> simp [yielded, hoj, hdj, e, undef]
        have hwant : ¬ Region.wanted o (yielded ops a.tmps) = true := by simp [Region.wanted, hog, hy]
        rw [if_neg hwant]
        refine hn _ M ι _ _ he ?_
        rw [hpd] at hd ⊢
        cases hod : o.dst with
        | none => exact h
        | some d => exact h.put ar_un (dstLt_spec hd d hod)
      rename_i b hb
      have hval := slot_bool h hb
      have hy : yielded ops a.tmps j = some b := by
        simp [yielded, hoj, hdj, hval]
      by_cases hbw : b = want
      · have hwant : Region.wanted o (yielded ops a.tmps) = true := by simp [Region.wanted, hog, hy, hbw]
        rw [if_pos hwant]
        exact .inl (ev1_any (h.refine (hbw ▸ hb)) hp hd hk (he.1 hbw) _ _ hn)
      · have hbn : b = !want := by cases b <;> cases want <;> simp_all
        have hwant : ¬ Region.wanted o (yielded ops a.tmps) = true := by simp [Region.wanted, hog, hy, hbw]
        rw [if_neg hwant]
        have hs' := h.refine (hbn ▸ hb)
        refine hn _ M ι _ _ (he.2 hbn) ?_
        rw [hpd] at hd ⊢
        cases hod : o.dst with
        | none => exact hs'
        | some d => exact hs'.put ar_un (dstLt_spec hd d hod)

theorem Sr.sim {M : Mem} {ι : Nat → Option BI} {a : Act} {w : World} (h : Sr c M ι s a w) (k : Sim [] s t) : Sr c M ι t a w := by
  obtain ⟨sl, hp, nx, gs⟩ := s
  obtain ⟨sl', hp', nx', gs'⟩ := t
  obtain ⟨e1, e2, e3, e4⟩ := k
  simp only at e1 e2 e3 e4
  subst e1; subst e2; subst e3
  exact ⟨h.wr, fun i => by
    have := h.slots i
    simp only at this ⊢
    rw [← e4 i (by simp)]; exact this, h.nt, h.df⟩

theorem qt_ev1 {p : POp} {d : Nat} {K : St → Prop} (hq : p.quiet = true) (hd : p.dst = some d) : ev1 c p s K = goQ (qv p s.sl s.hp) d s K := by
  cases p <;> simp [POp.quiet] at hq <;> simp [POp.dst] at hd <;> subst hd <;> rfl

theorem sim_same {b : Nat} {u : AV} (hu : get s.sl b = u) : Sim [] (put s b u) s := ⟨rfl, rfl, rfl, fun i _ => by
  rw [get_put]
  by_cases e : b = i
  · rw [if_pos e, ← e, hu]
  · rw [if_neg e]⟩
/-- What a quiet operation gives, in a state that some world is in. -/
theorem quiet_yields {i d : Nat} {g : GOp} {ops : Array Oper} {K : St → Prop} {M : Mem} {ι : Nat → Option BI} {a : Act} {w : World} (hc : okOp c.P c.nt ops i g = true) (hq : g.2.quiet = true) (hd : g.2.dst = some d)
    (h : Sr c M ι s a w) (he : ev c [g] s K) : ∃ v s', yq g s v ∧ Sim [] s' (put s d v) ∧ K s' := by
  obtain ⟨o, ho, hg, hdl, hp, hk⟩ := okOp_spec hc
  obtain ⟨x, p⟩ := g
  simp only at hg hdl hp hk hq hd
  have hop : chkOp c.P p o.op = true := by
    simp only [chk, Bool.and_eq_true] at hp; exact hp.2
  have main : ∀ (s1 : St) (K1 : St → Prop), Sr c M ι s1 a w → ev1 c p s1 K1 → ∃ v, Yq (qv p s1.sl s1.hp) v ∧ K1 (put s1 d v) := fun s1 K1 h1 he1 => by
    have hqs : QS c.P o a w M ι (qv p s1.sl s1.hp) := qv_sound h1.slots h1.wr.msub h1.wr.heap hop
    rw [qt_ev1 hq hd] at he1
    cases hqv : qv p s1.sl s1.hp with
    | val v => rw [hqv] at he1; exact ⟨v, rfl, he1⟩
    | need q v => rw [hqv] at he1; exact ⟨v, ⟨he1.1, rfl⟩, he1.2⟩
    | asm q v => rw [hqv] at he1 hqs; exact ⟨v, rfl, he1 hqs.1⟩
    | bad => rw [hqv] at he1; exact he1.elim
  cases x with
  | none =>
    obtain ⟨v, h1, h2⟩ := main s K h he
    exact ⟨v, _, h1, Sim.refl _ _, h2⟩
  | some y =>
    obtain ⟨b, want⟩ := y
    simp only [ev] at he
    split at he
    case h_3 => exact he.elim
    case h_2 =>
      rename_i hb
      rw [hd] at he
      exact ⟨.tup [], _, by simp only [yq, hb, rcG], Sim.refl _ _, he⟩
    rename_i bv hb
    have hsame : ∀ (u v : AV), get s.sl b = u → Sim [] (put (put s b u) d v) (put s d v) := fun u v hu => Sim.put (sim_same hu) d v
    by_cases hbw : bv = want
    · have he1 := he.1 hbw
      obtain ⟨v, h1, h2⟩ := main (put s b (.r (.b want))) K (h.refine (hbw ▸ hb)) he1
      refine ⟨v, _, ?_, hsame _ v (hbw ▸ hb), h2⟩
      simp only [yq, hb, rcG]
      refine ⟨fun _ => ?_, fun hn => by subst hbw; cases bv <;> cases hn⟩
      have e : qv p s.sl s.hp = qv p (put s b (.r (.b want))).sl (put s b (.r (.b want))).hp := qv_congr fun i _ => by
        simp only [get_put]
        split
        · rename_i e; subst e; rw [hb, hbw]
        · rfl
      rw [e]; exact h1
    · have hbn : bv = !want := by cases bv <;> cases want <;> simp_all
      have he2 := he.2 hbn
      rw [hd] at he2
      refine ⟨.tup [], _, ?_, hsame _ (.tup []) (hbn ▸ hb), he2⟩
      simp only [yq, hb, rcG]
      exact ⟨fun hn => absurd hn hbw, fun _ => by trivial⟩

theorem yq_step {i d : Nat} {g : GOp} {ops : Array Oper} {v : AV} {M : Mem} {ι : Nat → Option BI} {a : Act} {w : World} (hc : okOp c.P c.nt ops i g = true) (hq : g.2.quiet = true) (hd : g.2.dst = some d)
    (h : Sr c M ι s a w) (hy : yq g s v) : (ev c [g] s fun s' => Sim [] s' (put s d v)) ∧ ∃ a', Sr c M ι (put s d v) a' w := by
  obtain ⟨o, ho, hg, hdl, hp, hk⟩ := okOp_spec hc
  obtain ⟨x, p⟩ := g
  simp only at hg hdl hp hk hq hd
  have hop : chkOp c.P p o.op = true := by
    simp only [chk, Bool.and_eq_true] at hp; exact hp.2
  have hdn : d < c.nt := dstLt_spec hdl d hd
  have hqs : QS c.P o a w M ι (qv p s.sl s.hp) := qv_sound h.slots h.wr.msub h.wr.heap hop
  have main : Yq (qv p s.sl s.hp) v → (∀ s1 : St, qv p s1.sl s1.hp = qv p s.sl s.hp → ev1 c p s1 fun s' => s' = put s1 d v) ∧ ∃ a', Sr c M ι (put s d v) a' w := fun h1 => by
    cases hqv : qv p s.sl s.hp with
    | val u =>
      rw [hqv] at h1 hqs
      cases h1
      obtain ⟨z, _, hz⟩ := hqs
      exact ⟨fun s1 e1 => by rw [qt_ev1 hq hd, e1]; exact rfl, _, h.put hz hdn⟩
    | need q u =>
      rw [hqv] at h1 hqs
      obtain ⟨h1, rfl⟩ := h1
      obtain ⟨z, _, hz⟩ := hqs h1
      exact ⟨fun s1 e1 => by rw [qt_ev1 hq hd, e1]; exact ⟨h1, rfl⟩, _, h.put hz hdn⟩
    | asm q u =>
      rw [hqv] at h1 hqs
      cases h1
      obtain ⟨_, z, _, hz⟩ := hqs
      exact ⟨fun s1 e1 => by rw [qt_ev1 hq hd, e1]; exact fun _ => rfl, _, h.put hz hdn⟩
    | bad => rw [hqv] at h1; exact h1.elim
  have mono : ∀ (s1 : St) (K1 K2 : St → Prop), (∀ s, K1 s → K2 s) → ev1 c p s1 K1 → ev1 c p s1 K2 := fun s1 K1 K2 hK he => by
    rw [qt_ev1 hq hd] at he ⊢
    cases hqv : qv p s1.sl s1.hp with
    | val u => rw [hqv] at he; exact hK _ he
    | need q u => rw [hqv] at he; exact ⟨he.1, hK _ he.2⟩
    | asm q u => rw [hqv] at he; exact fun hq => hK _ (he hq)
    | bad => rw [hqv] at he; exact he.elim
  cases x with
  | none =>
    obtain ⟨h1, h2⟩ := main hy
    exact ⟨mono s _ _ (fun s' e => by subst e; exact Sim.refl _ _) (h1 s rfl), h2⟩
  | some y =>
    obtain ⟨b, want⟩ := y
    simp only [yq] at hy
    unfold rcG at hy
    split at hy
    case h_3 => exact hy.elim
    case h_2 =>
      rename_i hb
      subst hy
      simp only [ev, hb]
      exact ⟨by rw [hd]; exact Sim.refl _ _, _, h.put ar_un hdn⟩
    rename_i bv hb
    have hsame : ∀ (u v : AV), get s.sl b = u → Sim [] (put (put s b u) d v) (put s d v) := fun u v hu => Sim.put (sim_same hu) d v
    simp only [ev, hb]
    refine ⟨⟨fun hbw => ?_, fun hbw => ?_⟩, ?_⟩
    · obtain ⟨h1, _⟩ := main (hy.1 hbw)
      have e : qv p (put s b (.r (.b want))).sl (put s b (.r (.b want))).hp = qv p s.sl s.hp := qv_congr fun i _ => by
        simp only [get_put]
        split
        · rename_i e; subst e; rw [hb, hbw]
        · rfl
      exact mono _ _ _ (fun s' e => by subst e; exact hsame _ v (hbw ▸ hb)) (h1 (put s b (.r (.b want))) e)
    · rw [hd, hy.2 hbw]; exact hsame _ (.tup []) (hbw ▸ hb)
    · by_cases hbw : bv = want
      · exact (main (hy.1 hbw)).2
      · have hbn : bv = !want := by cases bv <;> cases want <;> simp_all
        rw [hy.2 hbn]
        exact ⟨_, h.put ar_un hdn⟩

theorem exU_real {ops : Array Oper} {M : Mem} {ι : Nat → Option BI} {w : World} : ∀ {U : List (Nat × GOp)} {t s : St} {a : Act}, (∀ u ∈ U, One c.P c.nt ops u) → Sr c M ι t a w → exU U t s → ∃ a', Sr c M ι s a' w
  | [], t, s, a, _, h, k => ⟨a, h.sim k⟩
  | (i, g) :: U, t, s, a, h1, h, ⟨d, v, k1, k2, k3⟩ => by
    obtain ⟨q1, q2, _⟩ := h1 (i, g) (by simp)
    obtain ⟨a', ha'⟩ := (yq_step q1 q2 k1 h k2).2
    exact exU_real (fun u hu => h1 u (List.mem_cons_of_mem _ hu)) ha' k3
end
end Go.Cap

/- The engine, part 23: all orders of a region, from the moves. -/
namespace Go.Cap
open Go
set_option linter.unusedSimpArgs false
set_option linter.unusedVariables false

abbrev Rdy (ops : Array Oper) (R : Array Bool) : List Nat := Region.ready .any ops R
def On (R : Array Bool) (i : Nat) : Prop := R.getD i false = true

theorem rdy_iff {ops : Array Oper} {R : Array Bool} (hs : R.size = ops.size) {j : Nat} : j ∈ Rdy ops R ↔ ¬ On R j ∧ j < ops.size ∧ ∀ k ∈ bdeps ops j, On R k := by
  unfold Rdy On
  rw [mem_ready]
  constructor
  · rintro ⟨h1, o, ho, h2⟩
    have hj : j < ops.size := (Array.getElem?_eq_some_iff.1 ho).1
    refine ⟨?_, hj, fun k hk => ?_⟩
    · simp [Array.getD, hs, hj] at h1 ⊢; exact h1
    · simp only [bdeps, ho, List.mem_map, List.mem_filter] at hk
      obtain ⟨e, ⟨he, hb⟩, rfl⟩ := hk
      exact h2 e (Array.mem_toList_iff.1 he) hb
  · rintro ⟨h1, hj, h2⟩
    refine ⟨?_, ops[j], Array.getElem?_eq_getElem hj, fun e he hb => h2 e.on ?_⟩
    · simp [Array.getD, hs, hj] at h1 ⊢; exact h1
    · simp only [bdeps, Array.getElem?_eq_getElem hj, List.mem_map, List.mem_filter]
      exact ⟨e, ⟨Array.mem_toList_iff.2 he, hb⟩, rfl⟩

theorem on_set {R : Array Bool} {i j : Nat} (hi : i < R.size) : On (R.setIfInBounds i true) j ↔ On R j ∨ j = i := by
  unfold On
  by_cases h : i = j
  · subst h; simp [hi]
  · rw [Go.getD_set_ne false h]
    exact ⟨.inl, fun h' => h'.resolve_right fun e => h e.symm⟩

theorem countP_lt {p q : Nat → Bool} : ∀ {l : List Nat} {j : Nat}, (∀ i, q i = true → p i = true) → j ∈ l → p j = true → q j = false → l.countP q < l.countP p
  | [], j, _, h, _, _ => by simp at h
  | x :: l, j, hpq, h, hp, hq => by
    have hle : l.countP q ≤ l.countP p := List.countP_mono_left fun i _ => hpq i
    rw [List.countP_cons, List.countP_cons]
    rcases List.mem_cons.1 h with h1 | h1
    · subst h1; simp [hp, hq]; omega
    · have := countP_lt hpq h1 hp hq
      have h2 := hpq x
      cases hqx : q x <;> cases hpx : p x <;> simp_all <;> omega

def unl (ops : Array Oper) (R : Array Bool) : Nat := (List.range ops.size).countP fun i => !R.getD i false
theorem unl_lt {ops : Array Oper} {R : Array Bool} {j : Nat} (hs : R.size = ops.size) (hj : j < ops.size) (hn : ¬ On R j) : unl ops (R.setIfInBounds j true) < unl ops R := by
  refine countP_lt (j := j) (fun i hi => ?_) (List.mem_range.2 hj) ?_ ?_
  · simp only [Bool.not_eq_true'] at hi ⊢
    cases h : R.getD i false with
    | false => rfl
    | true =>
      have : On (R.setIfInBounds j true) i := (on_set (by omega)).2 (.inl h)
      unfold On at this
      rw [this] at hi; cases hi
  · unfold On at hn; simpa using hn
  · have : On (R.setIfInBounds j true) j := (on_set (by omega)).2 (.inr rfl)
    unfold On at this
    simp [this]
theorem unl_zero {ops : Array Oper} {R : Array Bool} (h : unl ops R = 0) : ∀ j, j < ops.size → On R j := by
  intro j hj
  have := List.countP_eq_zero.1 h j (List.mem_range.2 hj)
  simpa [On] using this

theorem anc_on {ops : Array Oper} {A : List (List Nat)} (hA : ancOk ops A = true) {R : Array Bool} (hs : R.size = ops.size) (hcl : ∀ i, On R i → ∀ k ∈ bdeps ops i, On R k) : ∀ n i, i < n → i < ops.size → (∀ k ∈ bdeps ops i, On R k) → ∀ q ∈ A.getD i [], On R q := by
  intro n
  induction n with
  | zero => intro i h; omega
  | succ n ih =>
    intro i hi hio hd q hq
    have hrow := List.all_eq_true.1 hA i (List.mem_range.2 hio)
    simp only [Bool.and_eq_true, List.all_eq_true, List.any_eq_true, Bool.or_eq_true, beq_iff_eq, List.contains_iff_mem] at hrow
    obtain ⟨h1, h2⟩ := hrow
    obtain ⟨k, hk, hor⟩ := h2 q hq
    rcases hor with rfl | hor
    · exact hd k hk
    · have hki : k < i := Nat.le_of_ble_eq_true (h1 k hk)
      exact ih k (by omega) (by omega) (hcl k (hd k hk)) q hor

structure Inv (c : Cx) (ops : Array Oper) (A : List (List Nat)) (L : Array Bool) (pend : List (Nat × GOp)) (R : Array Bool) (U : List (Nat × GOp)) : Prop where
  ls : L.size = ops.size
  rs : R.size = ops.size
  rel : ∀ i, On L i ↔ On R i ∨ ∃ u ∈ U, u.1 = i
  dis : ∀ u ∈ U, ¬ On R u.1
  sub : U.Sublist pend
  pw : pend.Pairwise (Apt ops A)
  one : ∀ u ∈ pend, One c.P c.nt ops u
  idx : pend.Pairwise fun u v => u.1 ≠ v.1
  onl : ∀ u ∈ pend, On L u.1
  deps : ∀ u ∈ pend, ∀ k ∈ bdeps ops u.1, On L k
  closed : ∀ i, On R i → ∀ k ∈ bdeps ops i, On R k

section
variable {c : Cx} {ops : Array Oper} {A : List (List Nat)} {L R : Array Bool} {pend U : List (Nat × GOp)}

theorem pend_apt {i d : Nat} {g : GOp} (hd : g.2.dst = some d) : ∀ {pend : List (Nat × GOp)}, pendOk A i d g pend = true → (∀ u ∈ pend, i ∉ bdeps ops u.1) → ∀ u ∈ pend, Apt ops A u (i, g)
  | [], _, _, u, hu => by cases hu
  | (x, gu) :: l, h, hdep, u, hu => by
    simp only [pendOk, Bool.and_eq_true] at h
    rcases List.mem_cons.1 hu with rfl | hu
    · have h1 := h.1
      split at h1
      case h_2 => cases h1
      rename_i du hdu
      simp only [Bool.and_eq_true, Bool.or_eq_true, Bool.not_eq_true', bne_iff_ne, ne_eq, List.contains_iff_mem] at h1
      obtain ⟨⟨k1, k2⟩, k3⟩ := h1
      have k1' : d ∉ guse gu := fun hm => by rw [List.contains_iff_mem.2 hm] at k1; cases k1
      refine ⟨fun e he => ?_, ?_, ?_, hdep _ (by simp)⟩
      · have : e = d := by rw [hd] at he; cases he; rfl
        subst this; exact k1'
      · simp only; rw [hd, hdu]; exact fun e => k2 (Option.some.inj e)
      · rcases k3 with k3 | k3
        · exact .inl k3
        · refine .inr fun e he hm => ?_
          simp only at he
          rw [hdu] at he; cases he
          rw [List.contains_iff_mem.2 hm] at k3; cases k3
    · exact pend_apt hd h.2 (fun u hu => hdep u (List.mem_cons_of_mem _ hu)) u hu

/-- An operation is taken first. -/
theorem Inv.take (h : Inv c ops A L pend R U) {i d : Nat} {g : GOp} (hr : i ∈ Rdy ops L) (hok : okOp c.P c.nt ops i g = true) (hq : g.2.quiet = true) (hd : g.2.dst = some d) (hdg : d ∉ guse g) (hp : pendOk A i d g pend = true) :
    Inv c ops A (L.setIfInBounds i true) (pend ++ [(i, g)]) R (U ++ [(i, g)]) := by
  obtain ⟨hn, hi, hdeps⟩ := (rdy_iff h.ls).1 hr
  have hil : i < L.size := by rw [h.ls]; exact hi
  have hnd : ∀ u ∈ pend, i ∉ bdeps ops u.1 := fun u hu hm => hn (h.deps u hu i hm)
  have hii : i ∉ bdeps ops i := fun hm => hn (hdeps i hm)
  refine ⟨by simpa using h.ls, h.rs, fun k => ?_, fun u hu => ?_, h.sub.append_right _, ?_, fun u hu => ?_, ?_, fun u hu => ?_, fun u hu k hk => ?_, h.closed⟩
  · rw [on_set hil, h.rel k]
    constructor
    · rintro ((h1 | ⟨u, h1, h2⟩) | rfl)
      · exact .inl h1
      · exact .inr ⟨u, List.mem_append_left _ h1, h2⟩
      · exact .inr ⟨(k, g), by simp, rfl⟩
    · rintro (h1 | ⟨u, h1, h2⟩)
      · exact .inl (.inl h1)
      · rcases List.mem_append.1 h1 with h1 | h1
        · exact .inl (.inr ⟨u, h1, h2⟩)
        · simp only [List.mem_singleton] at h1; subst h1; exact .inr h2.symm
  · rcases List.mem_append.1 hu with hu | hu
    · exact h.dis u hu
    · simp only [List.mem_singleton] at hu; subst hu
      exact fun hR => hn ((h.rel i).2 (.inl hR))
  · refine List.pairwise_append.2 ⟨h.pw, by simp, fun u hu v hv => ?_⟩
    simp only [List.mem_singleton] at hv; subst hv
    exact pend_apt hd hp hnd u hu
  · rcases List.mem_append.1 hu with hu | hu
    · exact h.one u hu
    · simp only [List.mem_singleton] at hu; subst hu
      exact ⟨hok, hq, ⟨d, hd, hdg⟩, hii⟩
  · refine List.pairwise_append.2 ⟨h.idx, by simp, fun u hu v hv e => ?_⟩
    simp only [List.mem_singleton] at hv; subst hv
    have e' : u.1 = i := e
    exact hn (e' ▸ h.onl u hu)
  · rw [on_set hil]
    rcases List.mem_append.1 hu with hu | hu
    · exact .inl (h.onl u hu)
    · simp only [List.mem_singleton] at hu; subst hu; exact .inr rfl
  · rw [on_set hil]
    rcases List.mem_append.1 hu with hu | hu
    · exact .inl (h.deps u hu k hk)
    · simp only [List.mem_singleton] at hu; subst hu; exact .inl (hdeps k hk)

/-- An operation that was not taken first comes up. -/
theorem Inv.other (h : Inv c ops A L pend R U) {j : Nat} (hjL : ¬ On L j) (hj : j < ops.size) (hdeps : ∀ k ∈ bdeps ops j, On R k) : Inv c ops A (L.setIfInBounds j true) pend (R.setIfInBounds j true) U := by
  have hjl : j < L.size := by rw [h.ls]; exact hj
  have hjr : j < R.size := by rw [h.rs]; exact hj
  refine ⟨by simpa using h.ls, by simpa using h.rs, fun k => ?_, fun u hu => ?_, h.sub, h.pw, h.one, h.idx, fun u hu => ?_, fun u hu k hk => ?_, fun i hi k hk => ?_⟩
  · rw [on_set hjl, on_set hjr, h.rel k]
    constructor
    · rintro ((h1 | h1) | h1)
      · exact .inl (.inl h1)
      · exact .inr h1
      · exact .inl (.inr h1)
    · rintro ((h1 | h1) | h1)
      · exact .inl (.inl h1)
      · exact .inr h1
      · exact .inl (.inr h1)
  · rw [on_set hjr]
    rintro (h1 | h1)
    · exact h.dis u hu h1
    · exact hjL (h1 ▸ (h.rel u.1).2 (.inr ⟨u, hu, rfl⟩))
  · rw [on_set hjl]; exact .inl (h.onl u hu)
  · rw [on_set hjl]; exact .inl (h.deps u hu k hk)
  · rw [on_set hjr] at hi ⊢
    rcases hi with hi | hi
    · exact .inl (h.closed i hi k hk)
    · subst hi; exact .inl (hdeps k hk)

/-- One that was taken first comes up. -/
theorem Inv.mine (h : Inv c ops A L pend R U) {B C : List (Nat × GOp)} {j : Nat} {g : GOp} (hU : U = B ++ (j, g) :: C) (hj : j < ops.size) (hdeps : ∀ k ∈ bdeps ops j, On R k) : Inv c ops A L pend (R.setIfInBounds j true) (B ++ C) := by
  have hjr : j < R.size := by rw [h.rs]; exact hj
  have hidx : (B ++ (j, g) :: C).Pairwise fun u v => u.1 ≠ v.1 := hU ▸ h.idx.sublist h.sub
  have hne : ∀ u ∈ B ++ C, u.1 ≠ j := fun u hu e => by
    rcases List.mem_append.1 hu with hu | hu
    · exact (List.pairwise_append.1 hidx).2.2 u hu (j, g) (by simp) e
    · exact (List.pairwise_cons.1 (List.pairwise_append.1 hidx).2.1).1 u hu e.symm
  have hmem : ∀ u, u ∈ U ↔ u = (j, g) ∨ u ∈ B ++ C := fun u => by
    rw [hU]; simp only [List.mem_append, List.mem_cons]
    constructor
    · rintro (h | h | h) <;> simp [h]
    · rintro (h | h | h) <;> simp [h]
  refine ⟨h.ls, by simpa using h.rs, fun k => ?_, fun u hu => ?_, ?_, h.pw, h.one, h.idx, h.onl, h.deps, fun i hi k hk => ?_⟩
  · rw [on_set hjr, h.rel k]
    constructor
    · rintro (h1 | ⟨u, hu, h2⟩)
      · exact .inl (.inl h1)
      · rcases (hmem u).1 hu with rfl | hu
        · exact .inl (.inr h2.symm)
        · exact .inr ⟨u, hu, h2⟩
    · rintro ((h1 | rfl) | ⟨u, hu, h2⟩)
      · exact .inl h1
      · exact .inr ⟨(k, g), (hmem _).2 (.inl rfl), rfl⟩
      · exact .inr ⟨u, (hmem u).2 (.inr hu), h2⟩
  · rw [on_set hjr]
    rintro (h1 | h1)
    · exact h.dis u ((hmem u).2 (.inr hu)) h1
    · exact hne u hu h1
  · have hs := h.sub
    rw [hU] at hs
    exact ((List.sublist_cons_self (j, g) C).append_left B).trans hs
  · rw [on_set hjr] at hi ⊢
    rcases hi with hi | hi
    · exact .inl (h.closed i hi k hk)
    · subst hi; exact .inl (hdeps k hk)

/-- If nothing may come up, nothing that was taken first is left. -/
theorem Inv.nil (h : Inv c ops A L pend R U) (hr : Rdy ops R = []) : U = [] := by
  cases U with
  | nil => rfl
  | cons u U =>
    exfalso
    have hup : u ∈ pend := h.sub.subset (by simp)
    obtain ⟨q1, _, _, q4⟩ := h.one u hup
    obtain ⟨o, ho, _⟩ := okOp_spec q1
    have hlt : u.1 < ops.size := (Array.getElem?_eq_some_iff.1 ho).1
    have hpw := (List.pairwise_cons.1 (h.pw.sublist h.sub)).1
    have : u.1 ∈ Rdy ops R := (rdy_iff h.rs).2 ⟨h.dis u (by simp), hlt, fun k hk => by
      rcases (h.rel k).1 (h.deps u hup k hk) with h1 | ⟨v, hv, e⟩
      · exact h1
      · exfalso
        rcases List.mem_cons.1 hv with rfl | hv
        · exact q4 (e ▸ hk)
        · exact (hpw v hv).dep (e ▸ hk)⟩
    rw [hr] at this; cases this
theorem Inv.same (h : Inv c ops A L pend R []) {j : Nat} : j ∈ Rdy ops L ↔ j ∈ Rdy ops R := by
  have e : ∀ k, On L k ↔ On R k := fun k => by rw [h.rel k]; simp
  rw [rdy_iff h.ls, rdy_iff h.rs, e j]
  constructor
  · rintro ⟨h1, h2, h3⟩; exact ⟨h1, h2, fun k hk => (e k).1 (h3 k hk)⟩
  · rintro ⟨h1, h2, h3⟩; exact ⟨h1, h2, fun k hk => (e k).2 (h3 k hk)⟩

theorem alts_spec {K : St → Prop} {s : St} : ∀ {tree : OT} {rs : List Nat}, chkT c.P c.nt ops A L pend (some rs) tree = true → evT c K pend tree s → ∀ j ∈ rs, ∃ g m t', okOp c.P c.nt ops j g = true ∧ maskOk A j g m pend = true ∧
    chkT c.P c.nt ops A (L.setIfInBounds j true) pend none t' = true ∧ ev c [g] s fun s' => rcM m pend s' ∧ evT c K pend t' s'
  | .done, rs, h, _, _, _ => by cases rs <;> simp [chkT] at h
  | .q .., rs, h, _, _, _ => by cases rs <;> simp [chkT] at h
  | .stop, [], _, _, j, hj => by cases hj
  | .stop, _ :: _, h, _, _, _ => by simp [chkT] at h
  | .alt k g m t more, rs, h, he, j, hj => by
    cases rs with
    | nil => cases hj
    | cons r rs =>
      simp only [chkT, Option.getD_some, Bool.and_eq_true, beq_iff_eq] at h
      obtain ⟨⟨⟨⟨rfl, h1⟩, h2⟩, h3⟩, h4⟩ := h
      rcases List.mem_cons.1 hj with rfl | hj
      · exact ⟨g, m, t, h1, h2, h3, he.1⟩
      · exact alts_spec h4 he.2 j hj

theorem rcM_mem {j : Nat} {g : GOp} {s' : St} : ∀ {m : List Bool} {pend : List (Nat × GOp)}, maskOk A j g m pend = true → rcM m pend s' → ∀ u ∈ pend, u.1 ∉ A.getD j [] → rc u.2 s' ∧ ∀ d, u.2.2.dst = some d → d ∉ guse g
  | _, [], _, _, u, hu, _ => by cases hu
  | [], _ :: _, h, _, _, _, _ => by simp [maskOk] at h
  | b :: m, (x, gx) :: l, h, hr, u, hu, hn => by
    simp only [maskOk, Bool.and_eq_true, Bool.or_eq_true] at h
    rcases List.mem_cons.1 hu with rfl | hu
    · rcases h.1 with h1 | ⟨hb, h1⟩
      · exact absurd (List.contains_iff_mem.1 h1) hn
      · subst hb
        refine ⟨hr.1, fun d hd hm => ?_⟩
        simp only at hd
        rw [hd] at h1
        simp only [Bool.not_eq_true'] at h1
        rw [List.contains_iff_mem.2 hm] at h1; cases h1
    · cases b with
      | true => exact rcM_mem h.2 hr.2 u hu hn
      | false => exact rcM_mem h.2 hr u hu hn

theorem any_sound {K : St → Prop} {Q : Exit → Act → World → Prop} (hA : ancOk ops A = true) (hKs : ∀ s s', Sim [] s s' → K s → K s') (hQ : ∀ s M ι a w, K s → Sr c M ι s a w → Q .normal a w) :
    ∀ (fuel : Nat) (tree : OT) (L R : Array Bool) (pend U : List (Nat × GOp)) (s t : St) (M : Mem) (ι : Nat → Option BI) (a : Act) (w : World), chkT c.P c.nt ops A L pend none tree = true → evT c K pend tree s → Inv c ops A L pend R U →
      exU U t s → Sr c M ι t a w → unl ops R ≤ fuel → wpAny c.P .any ops Q fuel R a w := by
  intro fuel
  induction fuel with
  | zero =>
    intro tree
    induction tree with
    | done =>
      intro L R pend U s t M ι a w hc he hi hx hs hu
      have hall := unl_zero (Nat.le_zero.1 hu)
      have hr : Rdy ops R = [] := List.eq_nil_iff_forall_not_mem.2 fun j hj => ((rdy_iff hi.rs).1 hj).1 (hall j ((rdy_iff hi.rs).1 hj).2.1)
      obtain rfl := hi.nil hr
      exact ⟨hr, hQ _ _ _ _ _ (hKs _ _ (Sim.symm hx) he) hs⟩
    | q i g t ih =>
      intro L R pend U s t M ι a w hc he hi hx hs hu
      simp only [chkT, Bool.and_eq_true] at hc
      obtain ⟨⟨⟨⟨h1, h2⟩, h3⟩, h4⟩, h5⟩ := hc
      split at h4
      case h_2 => cases h4
      rename_i d hd
      simp only [Bool.and_eq_true, Bool.not_eq_true'] at h4
      have hdg : d ∉ guse g := fun hm => by rw [List.contains_iff_mem.2 hm] at h4; exact absurd h4.1 (by simp)
      obtain ⟨a', ha'⟩ := exU_real (fun u hu => hi.one u (hi.sub.subset hu)) hs hx
      obtain ⟨v, s', hy, hsim, hK⟩ := quiet_yields h2 h3 hd ha' he
      exact ih _ R _ _ s' _ M ι a w h5 hK (hi.take (List.contains_iff_mem.1 h1) h2 h3 hd hdg h4.2) (exU_simR (exU_snoc hx hd hy) hsim.symm) hs hu
    | alt j g m t more _ _ =>
      intro L R pend U s t M ι a w hc he hi hx hs hu
      exfalso
      have hall := unl_zero (Nat.le_zero.1 hu)
      have hr : Rdy ops L = [] := List.eq_nil_iff_forall_not_mem.2 fun j hj => by
        obtain ⟨h1, h2, _⟩ := (rdy_iff hi.ls).1 hj
        exact h1 ((hi.rel j).2 (.inl (hall j h2)))
      simp only [chkT, Option.getD_none] at hc
      have hr' : Region.ready .any ops L = [] := hr
      rw [hr'] at hc
      cases hc
    | stop => intro L R pend U s t M ι a w hc; simp [chkT] at hc
  | succ fuel ihf =>
    intro tree
    induction tree with
    | q i g t ih =>
      intro L R pend U s t M ι a w hc he hi hx hs hu
      simp only [chkT, Bool.and_eq_true] at hc
      obtain ⟨⟨⟨⟨h1, h2⟩, h3⟩, h4⟩, h5⟩ := hc
      split at h4
      case h_2 => cases h4
      rename_i d hd
      simp only [Bool.and_eq_true, Bool.not_eq_true'] at h4
      have hdg : d ∉ guse g := fun hm => by rw [List.contains_iff_mem.2 hm] at h4; exact absurd h4.1 (by simp)
      obtain ⟨a', ha'⟩ := exU_real (fun u hu => hi.one u (hi.sub.subset hu)) hs hx
      obtain ⟨v, s', hy, hsim, hK⟩ := quiet_yields h2 h3 hd ha' he
      exact ih _ R _ _ s' _ M ι a w h5 hK (hi.take (List.contains_iff_mem.1 h1) h2 h3 hd hdg h4.2) (exU_simR (exU_snoc hx hd hy) hsim.symm) hs hu
    | stop => intro L R pend U s t M ι a w hc; simp [chkT] at hc
    | done =>
      intro L R pend U s t M ι a w hc he hi hx hs hu
      have hL : Rdy ops L = [] := by
        simp only [chkT] at hc
        exact List.isEmpty_iff.1 hc
      refine ⟨fun hr => ?_, fun j hj => ?_⟩
      · obtain rfl := hi.nil hr
        exact hQ _ _ _ _ _ (hKs _ _ (Sim.symm hx) he) hs
      · obtain ⟨h1, h2, h3⟩ := (rdy_iff hi.rs).1 hj
        have hjL : On L j := by
          refine Classical.byContradiction fun hn => ?_
          have : j ∈ Rdy ops L := (rdy_iff hi.ls).2 ⟨hn, h2, fun k hk => (hi.rel k).2 (.inl (h3 k hk))⟩
          rw [hL] at this; cases this
        obtain ⟨u, hu', rfl⟩ := ((hi.rel j).1 hjL).resolve_left h1
        obtain ⟨B, C, hU⟩ := List.append_of_mem hu'
        obtain ⟨j, g⟩ := u
        obtain ⟨q1, q2, ⟨d, q3, q4⟩, _⟩ := hi.one _ (hi.sub.subset hu')
        simp only at q1 q2 q3 q4 h1 h2 h3 hj hjL
        have hpw : (B ++ (j, g) :: C).Pairwise (Apt ops A) := hU ▸ hi.pw.sublist hi.sub
        have hanc := anc_on hA hi.rs hi.closed _ j (Nat.lt_succ_self j) h2 h3
        obtain ⟨v, hy, hx'⟩ := exU_pull (j := j) q3 q4 (A := B) (B := C) (fun x hx1 => by
          have hap := (List.pairwise_append.1 hpw).2.2 x hx1 (j, g) (by simp)
          refine ⟨fun e he' => ⟨?_, fun e' => hap.dst (by rw [he', q3, e'])⟩, hap.use d q3⟩
          rcases hap.anc with k | k
          · exact absurd (hanc _ k) (hi.dis x (by rw [hU]; exact List.mem_append_left _ hx1))
          · exact k e he') (hU ▸ hx)
        refine op_ok q1 hs (yq_step q1 q2 q3 hs hy).1 fun s2 M2 ι2 a2 w2 hsim hs2 => ?_
        exact ihf .done L _ pend (B ++ C) s s2 M2 ι2 a2 w2 hc he (hi.mine hU h2 h3) (exU_sim (Sim.symm hsim) hx') hs2 (by have := unl_lt hi.rs h2 h1; show unl ops (R.setIfInBounds j true) ≤ fuel; omega)
    | alt k g0 m0 t0 more _ _ =>
      intro L R pend U s t M ι a w hc he hi hx hs hu
      have hc' : chkT c.P c.nt ops A L pend (some (Rdy ops L)) (.alt k g0 m0 t0 more) = true := by
        simp only [chkT, Option.getD_none, Option.getD_some] at hc ⊢; exact hc
      refine ⟨fun hr => ?_, fun j hj => ?_⟩
      · exfalso
        obtain rfl := hi.nil hr
        have hL : Rdy ops L = [] := List.eq_nil_iff_forall_not_mem.2 fun j hj => by
          have := hi.same.1 hj
          have hr' : Rdy ops R = [] := hr
          rw [hr'] at this; cases this
        simp only [chkT, Option.getD_none] at hc
        have hL' : Region.ready .any ops L = [] := hL
        rw [hL'] at hc
        cases hc
      · obtain ⟨h1, h2, h3⟩ := (rdy_iff hi.rs).1 hj
        have hanc := anc_on hA hi.rs hi.closed _ j (Nat.lt_succ_self j) h2 h3
        by_cases hjL : On L j
        · obtain ⟨u, hu', rfl⟩ := ((hi.rel j).1 hjL).resolve_left h1
          obtain ⟨B, C, hU⟩ := List.append_of_mem hu'
          obtain ⟨j, g⟩ := u
          obtain ⟨q1, q2, ⟨d, q3, q4⟩, _⟩ := hi.one _ (hi.sub.subset hu')
          simp only at q1 q2 q3 q4 h1 h2 h3 hj hjL hanc
          have hpw : (B ++ (j, g) :: C).Pairwise (Apt ops A) := hU ▸ hi.pw.sublist hi.sub
          obtain ⟨v, hy, hx'⟩ := exU_pull (j := j) q3 q4 (A := B) (B := C) (fun x hx1 => by
            have hap := (List.pairwise_append.1 hpw).2.2 x hx1 (j, g) (by simp)
            refine ⟨fun e he' => ⟨?_, fun e' => hap.dst (by rw [he', q3, e'])⟩, hap.use d q3⟩
            rcases hap.anc with k | k
            · exact absurd (hanc _ k) (hi.dis x (by rw [hU]; exact List.mem_append_left _ hx1))
            · exact k e he') (hU ▸ hx)
          refine op_ok q1 hs (yq_step q1 q2 q3 hs hy).1 fun s2 M2 ι2 a2 w2 hsim hs2 => ?_
          exact ihf (.alt k g0 m0 t0 more) L _ pend (B ++ C) s s2 M2 ι2 a2 w2 hc he (hi.mine hU h2 h3) (exU_sim (Sim.symm hsim) hx') hs2 (by have := unl_lt hi.rs h2 h1; show unl ops (R.setIfInBounds j true) ≤ fuel; omega)
        · have hjr : j ∈ Rdy ops L := (rdy_iff hi.ls).2 ⟨hjL, h2, fun k hk => (hi.rel k).2 (.inl (h3 k hk))⟩
          obtain ⟨g, m, t', k1, k2, k3, k4⟩ := alts_spec hc' he j hjr
          have hnu : ∀ u ∈ U, u.1 ∉ A.getD j [] := fun u hu' hm => hi.dis u hu' (hanc _ hm)
          have hfr : ∀ i ∈ guse g, i ∉ dsts U := fun i hig hm => by
            obtain ⟨u, hu', hud⟩ := mem_dsts hm
            have hmask : ∀ {m : List Bool} {pend : List (Nat × GOp)}, maskOk A j g m pend = true → ∀ u ∈ pend, u.1 ∉ A.getD j [] → ∀ d, u.2.2.dst = some d → d ∉ guse g := by
              intro m pend
              induction pend generalizing m with
              | nil => intro _ u hu; cases hu
              | cons x l ih =>
                obtain ⟨xi, gx⟩ := x
                intro h u hu hn d hd hm
                cases m with
                | nil => simp [maskOk] at h
                | cons b m =>
                  simp only [maskOk, Bool.and_eq_true, Bool.or_eq_true] at h
                  rcases List.mem_cons.1 hu with rfl | hu
                  · rcases h.1 with h1 | ⟨hb, h1⟩
                    · exact hn (List.contains_iff_mem.1 h1)
                    · simp only at hd
                      rw [hd] at h1
                      simp only [Bool.not_eq_true'] at h1
                      rw [List.contains_iff_mem.2 hm] at h1; cases h1
                  · exact ih h.2 u hu hn d hd hm
            exact hmask k2 u (hi.sub.subset hu') (hnu u hu') i hud hig
          have hk : ∀ l, g.2 ≠ .kp l := (okOp_spec k1).choose_spec.2.2.2.2
          refine op_ok k1 hs (ev_frame hk (exU_dsts hx).symm hfr k4) fun t2 M2 ι2 a2 w2 hK2 hs2 => ?_
          obtain ⟨s2, ⟨hrc, het⟩, hsim⟩ := hK2
          refine ihf t' _ _ pend U s2 t2 M2 ι2 a2 w2 k3 het (hi.other hjL h2 h3) ?_ hs2 (by have := unl_lt hi.rs h2 h1; show unl ops (R.setIfInBounds j true) ≤ fuel; omega)
          exact exU_rebuild (hi.pw.sublist hi.sub) (fun u hu' => hi.one u (hi.sub.subset hu')) (fun u hu' => (rcM_mem k2 hrc u (hi.sub.subset hu') (hnu u hu')).1) hsim

theorem run_dr {A : List (List Nat)} {t : OT} {k : List Nat} {s : St} {n : St → Prop} {x : Nat → St → Prop} {r : St → Prop} (h : evT c (fun s' => n { s' with sl := k.map fun i => (i, get s'.sl i) }) [] t s) : Run c (.dr A t k) s n x r := by
  intro code hc M ι a w hs
  cases code <;> simp only [chkC, Bool.false_eq_true, Bool.and_eq_true] at hc
  rename_i id ops d
  obtain ⟨⟨⟨hd, hm⟩, hA⟩, ht⟩ := hc
  subst hd
  refine wp_region_any hm ?_
  have hs' : Sr c M ι s a { w with drawn := w.drawn + 1 } := ⟨⟨hs.wr.msub, hs.wr.m0, hs.wr.mnew, hs.wr.heap, hs.wr.inj, hs.wr.own, ⟨hs.wr.kept.os, hs.wr.kept.tape, hs.wr.kept.output, hs.wr.kept.size, hs.wr.kept.block⟩, hs.wr.fresh, hs.wr.mle, hs.wr.anc, hs.wr.gsn, hs.wr.gsm⟩, hs.slots, hs.nt, hs.df⟩
  have hoff : ∀ i, ¬ On (Array.replicate ops.size false) i := fun i => by
    simp only [On, Array.getD_eq_getD_getElem?, Array.getElem?_replicate]
    split <;> simp
  refine any_sound hA (fun s s' hsim hK => ?_) (fun s M ι a w hK hs => ?_) ops.size t _ _ [] [] s s M ι a _ ht h ?_ (Sim.refl [] s) hs' ?_
  · have e : ({ s with sl := k.map fun i => (i, get s.sl i) } : St) = { s' with sl := k.map fun i => (i, get s'.sl i) } := by
      obtain ⟨e1, e2, e3, e4⟩ := hsim
      obtain ⟨sl, hp, nx, gs⟩ := s
      obtain ⟨sl', hp', nx', gs'⟩ := s'
      simp only at e1 e2 e3 e4
      subst e1; subst e2; subst e3
      congr 1
      exact List.map_congr_left fun i _ => by rw [e4 i (by simp)]
    show n _
    rw [← e]; exact hK
  · exact ⟨_, M, ι, hK, hs.keep k⟩
  · exact ⟨by simp, by simp, fun i => by simp [hoff i], fun u hu => (by cases hu), List.Sublist.refl _, List.Pairwise.nil, fun u hu => (by cases hu), List.Pairwise.nil, fun u hu => (by cases hu), fun u hu => (by cases hu), fun i hi => absurd hi (hoff i)⟩
  · unfold unl
    refine Nat.le_trans (List.countP_le_length) (by simp)
end
end Go.Cap

/- The engine, part 24: equations for evaluating regions whose operations may come in more than one order. -/
namespace Go.Cap
open Go
set_option linter.unusedVariables false
set_option linter.unusedSimpArgs false

section
variable {c : Cx} {K : St → Prop} {s s' : St}
@[go_sem] theorem evT_done (p : List (Nat × GOp)) : evT c K p .done s = K s := (rfl)
@[go_sem] theorem evT_q (p : List (Nat × GOp)) (i : Nat) (g : GOp) (t : OT) : evT c K p (.q i g t) s = ev c [g] s fun s' => evT c K (p ++ [(i, g)]) t s' := (rfl)
@[go_sem] theorem evT_alt (p : List (Nat × GOp)) (j : Nat) (g : GOp) (m : List Bool) (t more : OT) : evT c K p (.alt j g m t more) s = ((ev c [g] s fun s' => rcM m p s' ∧ evT c K p t s') ∧ evT c K p more s) := (rfl)
@[go_sem] theorem evT_stop (p : List (Nat × GOp)) : evT c K p .stop s = True := (rfl)
theorem evT_congr {p : List (Nat × GOp)} {t : OT} (h : s = s') : evT c K p t s = evT c K p t s' := by rw [h]
theorem rcM_congr {m : List Bool} {p : List (Nat × GOp)} (h : s = s') : rcM m p s = rcM m p s' := by rw [h]
@[go_sem] theorem rcM_true (m : List Bool) (i : Nat) (g : GOp) (l : List (Nat × GOp)) : rcM (true :: m) ((i, g) :: l) s = (rc g s ∧ rcM m l s) := (rfl)
@[go_sem] theorem rcM_false (m : List Bool) (p : Nat × GOp) (l : List (Nat × GOp)) : rcM (false :: m) (p :: l) s = rcM m l s := (rfl)
@[go_sem] theorem rcM_nil (m : List Bool) : rcM m [] s = True := by cases m with | nil => rfl | cons b m => cases b <;> rfl
def dstO (d : Option Nat) (sl : List (Nat × AV)) : AV := match d with
  | some d => get sl d
  | none => .junk
@[go_sem] theorem dstO_some (d : Nat) (sl : List (Nat × AV)) : dstO (some d) sl = get sl d := (rfl)
@[go_sem] theorem rc_none (p : POp) (sl : List (Nat × AV)) (hp : List (Nat × Blk)) (nx : Nat) (gs : List Nat) : rc (none, p) ⟨sl, hp, nx, gs⟩ = Yq (qv p sl hp) (dstO p.dst sl) := (rfl)
@[go_sem] theorem rc_some (x : Nat) (want : Bool) (p : POp) (sl : List (Nat × AV)) (hp : List (Nat × Blk)) (nx : Nat) (gs : List Nat) : rc (some (x, want), p) ⟨sl, hp, nx, gs⟩ = rcG (get sl x) want (qv p sl hp) (dstO p.dst sl) := (rfl)
@[go_sem] theorem rcG_b (b want : Bool) (q : QR) (x : AV) : rcG (.r (.b b)) want q x = ((b = want → Yq q x) ∧ (b = !want → x = .tup [])) := (rfl)
@[go_sem] theorem rcG_un (want : Bool) (q : QR) (x : AV) : rcG (.tup []) want q x = (x = .tup []) := (rfl)
@[go_sem high] theorem rcG_tt (q : QR) (x : AV) : rcG (.r (.b true)) true q x = Yq q x := by simp [rcG]
@[go_sem high] theorem rcG_ff (q : QR) (x : AV) : rcG (.r (.b false)) false q x = Yq q x := by simp [rcG]
@[go_sem high] theorem rcG_tf (q : QR) (x : AV) : rcG (.r (.b true)) false q x = (x = .tup []) := by simp [rcG]
@[go_sem high] theorem rcG_ft (q : QR) (x : AV) : rcG (.r (.b false)) true q x = (x = .tup []) := by simp [rcG]
@[go_sem] theorem Yq_val (x v : AV) : Yq (.val x) v = (x = v) := (rfl)
@[go_sem] theorem Yq_need (p : Prop) (x v : AV) : Yq (.need p x) v = (p ∧ x = v) := (rfl)
@[go_sem] theorem Yq_asm (p : Prop) (x v : AV) : Yq (.asm p x) v = (x = v) := (rfl)
end
attribute [congr] evT_congr rcM_congr

section
variable (sl : List (Nat × AV)) (hp : List (Nat × Blk)) (d : Nat)
@[go_sem] theorem v_mv (x : Opd) : qv (.mv d x) sl hp = .val (x.ev sl) := (rfl)
@[go_sem] theorem v_pk (a x y : Opd) : qv (.pk d a x y) sl hp = pick (a.ev sl) (x.ev sl) (y.ev sl) := (rfl)
@[go_sem] theorem v_bd (z : List RV) (ps : List (Nat × Nat × Opd)) : qv (.bd d z ps) sl hp = bldA z (ps.map fun p => (p.1, p.2.1, p.2.2.ev sl)) := (rfl)
@[go_sem] theorem v_ld (sz : Option Nat) (a : Opd) : qv (.ld d sz a) sl hp = ldA hp sz (a.ev sl) := (rfl)
@[go_sem] theorem v_bi (op : BinOp) (x y : Opd) : qv (.bi d op x y) sl hp = bin op (x.ev sl) (y.ev sl) := (rfl)
@[go_sem] theorem v_bb (neg : Bool) (x y : Opd) : qv (.bb d neg x y) sl hp = binB neg (x.ev sl) (y.ev sl) := (rfl)
@[go_sem] theorem v_eqs (neg : Bool) (ks : List RV) (x y : Opd) : qv (.eqs d neg ks x y) sl hp = eqAgg ks neg (x.ev sl) (y.ev sl) := (rfl)
@[go_sem] theorem v_eqn (neg : Bool) (x : Opd) : qv (.eqn d neg x) sl hp = eqNil neg (x.ev sl) := (rfl)
@[go_sem] theorem v_un (op : UnOp) (x : Opd) : qv (.un d op x) sl hp = una op (x.ev sl) := (rfl)
@[go_sem] theorem v_cv (k : IntKind) (x : Opd) : qv (.cv d k x) sl hp = conv k (x.ev sl) := (rfl)
@[go_sem] theorem v_cs (x : Opd) : qv (.cs d x) sl hp = strOf hp (x.ev sl) := (rfl)
@[go_sem] theorem v_fa (off : Nat) (x : Opd) : qv (.fa d off x) sl hp = faddr off (x.ev sl) := (rfl)
@[go_sem] theorem v_ia (sz : Nat) (x i : Opd) : qv (.ia d sz x i) sl hp = iaddr hp sz (x.ev sl) (i.ev sl) := (rfl)
@[go_sem] theorem v_iA (len sz : Nat) (x i : Opd) : qv (.iA d len sz x i) sl hp = iaddrA len sz (x.ev sl) (i.ev sl) := (rfl)
@[go_sem] theorem v_ix (x i : Opd) : qv (.ix d x i) sl hp = sidx (x.ev sl) (i.ev sl) := (rfl)
@[go_sem] theorem v_ex (x : Opd) (i : Nat) : qv (.ex d x i) sl hp = extr i (x.ev sl) := (rfl)
@[go_sem] theorem v_ln (x : Opd) : qv (.ln d x) sl hp = lenA (x.ev sl) := (rfl)
@[go_sem] theorem v_lS (x : Opd) : qv (.lS d x) sl hp = lenS (x.ev sl) := (rfl)
@[go_sem] theorem v_mn (x y : Opd) : qv (.mn d x y) sl hp = minA (x.ev sl) (y.ev sl) := (rfl)
@[go_sem] theorem v_mx (x y : Opd) : qv (.mx d x y) sl hp = maxA (x.ev sl) (y.ev sl) := (rfl)
@[go_sem] theorem v_sS (x : Opd) (lo hi : Option Opd) : qv (.sS d x lo hi) sl hp = slicSO (x.ev sl) (bnd sl lo 0) (bnd sl hi (lenI (x.ev sl))) := (rfl)
@[go_sem] theorem v_sc (sz : Nat) (x : Opd) (lo hi : Option Opd) : qv (.sc d sz x lo hi) sl hp = slicO hp sz (x.ev sl) (bnd sl lo 0) (bnd sl hi (lenI (x.ev sl))) := (rfl)
@[go_sem] theorem v_mf (f : Nat) (caps : List Opd) : qv (.mf d f caps) sl hp = .val (.fn f (caps.map fun x => x.ev sl)) := (rfl)
@[go_sem] theorem v_nc (x : Opd) : qv (.nc d x) sl hp = nilC (x.ev sl) := (rfl)
@[go_sem] theorem v_fd (off : Nat) (sz : Option Nat) (x : Opd) : qv (.fd d off sz x) sl hp = partA off sz (x.ev sl) := (rfl)
@[go_sem] theorem v_iv (len : Nat) (x i : Opd) : qv (.iv d len x i) sl hp = elemA len (x.ev sl) (i.ev sl) := (rfl)
end
end Go.Cap

/- The engine, part 25: an argument that can be read as data, as the engine sees it. -/
namespace Go.Cap
open Go Go.RowKit Go.ChangeShapes Go.WideShapes
set_option linter.unusedSimpArgs false
set_option linter.unusedVariables false

/-- Kinds of cells. -/
inductive CT where
  | i (k : IntKind)
  | b
  | s
  | sl (row : List CT)

inductive Okc : CT → RV → Prop
  | i (k : IntKind) (x : Int) (h : (Lit.int k x).wf = true) : Okc (.i k) (.n k x)
  | b (x : Bool) : Okc .b (.b x)
  | s (l : List UInt8) (h : l.length ≤ maxLen) : Okc .s (.s l)
  | sl (row : List CT) (L : List (List RV)) (hl : L.length ≤ maxLen) (hr : ∀ r ∈ L, r.length = row.length)
      (h : ∀ (i j : Nat) c x, row[j]? = some c → (L[i]?).bind (·[j]?) = some x → Okc c x) : Okc (.sl row) (.ro none L)
def RowOk (row : List CT) (xs : List RV) : Prop := xs.length = row.length ∧ ∀ (j : Nat) c x, row[j]? = some c → xs[j]? = some x → Okc c x

section
variable (P : Program)
def flatFs (g : TypeId → Option (List CT)) : List Field → Nat → Option (List CT)
  | [], _ => some []
  | f :: fs, off => if f.offset = off then (match g f.type with
      | some r => if r.length = P.cellsOf f.type then (match flatFs g fs (off + r.length) with
          | some rs => some (r ++ rs)
          | none => none) else none
      | none => none) else none
def flatT : Nat → TypeId → Option (List CT)
  | 0, _ => none
  | n + 1, t => match P.underlying t with
    | some .bool => some [.b]
    | some (.int k) => some [.i k]
    | some .string => some [.s]
    | some (.slice e) => (match flatT n e with
        | some r => if r.length = P.cellsOf e ∧ 0 < r.length then some [.sl r] else none
        | none => none)
    | some (.struct fs) => flatFs P (flatT n) fs.toList 0
    | _ => none
end

section
variable {H : Type} {enc : TypeId × Value → H} {P : Program} {W : World} {base : Nat} {spare : Nat → Bool} {held : Bool}

theorem cells_at {w : World} {base : Nat} {blk off : Nat} {n : Nat} {cs : List Value} (h : w.cells? base ⟨blk, off, none⟩ n = some cs) : cs.length = n ∧ ∀ j v, cs[j]? = some v → w.cell? ⟨blk, off + j, none⟩ = some v := by
  unfold World.cells? at h
  split at h
  · have hl := mapM_some_length h
    have hg := mapM_some_get h
    simp at hl
    refine ⟨hl, fun j v hv => ?_⟩
    have hj : j < n := by have := (List.getElem?_eq_some_iff.1 hv).1; omega
    have := hg j j (by simp [hj])
    rw [hv, Addr.add_lit] at this
    exact this
  · cases h

theorem cell_block {w : World} {b i : Nat} {v : Value} (h : w.cell? ⟨b, i, none⟩ = some v) : ∃ arr e f, w.heap[b]? = some (.cells arr e f) ∧ arr[i]? = some v := by
  have h0 := h
  unfold World.cell? at h
  cases hb : w.heap[b]? with
  | none => simp [hb] at h
  | some o =>
    cases o with
    | cells arr e f => exact ⟨arr, e, f, rfl, by rw [cell_at hb] at h0; exact h0⟩
    | _ => simp [hb] at h

theorem view_fs {g : TypeId → Option (List CT)} {n : Nat} (hg : ∀ t row cs x, g t = some row → DataW.trod enc P W base spare held n t cs = some x → ∃ xs, xs.length = cs.length ∧ (∀ (j : Nat) y v, xs[j]? = some y → cs[j]? = some v → Rr (allM W) y v) ∧ RowOk row xs) :
    ∀ (fs : List Field) (off : Nat) (row : List CT) (cs : List Value) (ys : List (DataW H × List MemPlace)), flatFs P g fs off = some row → cs.length = off + row.length →
      (∀ (i : Nat) f, fs[i]? = some f → ∃ y, DataW.trod enc P W base spare held n f.type ((cs.drop f.offset).take (P.cellsOf f.type)) = some y) →
      ∃ xs : List RV, xs.length = row.length ∧ (∀ (j : Nat) y v, xs[j]? = some y → cs[off + j]? = some v → Rr (allM W) y v) ∧ RowOk row xs
  | [], off, row, cs, ys, h, hl, _ => by
    simp [flatFs] at h; subst h
    exact ⟨[], rfl, fun j y v h => by simp at h, rfl, fun j c x h => by simp at h⟩
  | f :: fs, off, row, cs, ys, h, hl, ht => by
    simp only [flatFs] at h
    split at h
    case isFalse => cases h
    rename_i hoff
    subst hoff
    split at h
    case h_2 => cases h
    rename_i r hr
    split at h
    case isFalse => cases h
    rename_i hrl
    split at h
    case h_2 => cases h
    rename_i rs hrs
    cases h
    obtain ⟨y, hy⟩ := ht 0 f rfl
    obtain ⟨xs, k1, k2, k3⟩ := hg _ _ _ _ hr hy
    simp only [List.length_append] at hl
    obtain ⟨xs', q1, q2, q3⟩ := view_fs hg fs (f.offset + r.length) rs cs ys hrs (by omega) fun i f' hf => ht (i + 1) f' (by simpa using hf)
    have hxl : xs.length = r.length := k3.1
    refine ⟨xs ++ xs', by simp [hxl, q1], fun j y v hj hv => ?_, ?_, fun j c x hc hx => ?_⟩
    · rw [List.getElem?_append] at hj
      split at hj
      · rename_i hlt
        refine k2 j y v hj ?_
        rw [List.getElem?_take, if_pos (by omega), List.getElem?_drop]
        exact hv
      · rename_i hge
        refine q2 (j - xs.length) y v hj ?_
        rw [← hv]; congr 1; omega
    · simp [hxl, q1]
    · rw [List.getElem?_append] at hc hx
      rw [hxl] at hx
      split at hc
      · rename_i hlt; rw [if_pos hlt] at hx; exact k3.2 j c x hc hx
      · rename_i hge; rw [if_neg hge] at hx; exact q3.2 _ c x hc hx

theorem flatFs_len {g : TypeId → Option (List CT)} : ∀ (fs : List Field) (off : Nat) (row : List CT), flatFs P g fs off = some row → True := fun _ _ _ _ => trivial

theorem view_trod : ∀ (m n : Nat) (t : TypeId) (row : List CT) (cs : List Value) (x : DataW H × List MemPlace), flatT P m t = some row → row.length = P.cellsOf t → DataW.trod enc P W base spare held n t cs = some x →
    ∃ xs : List RV, xs.length = cs.length ∧ (∀ (j : Nat) y v, xs[j]? = some y → cs[j]? = some v → Rr (allM W) y v) ∧ RowOk row xs := by
  intro m
  induction m with
  | zero => intro n t row cs x h; simp [flatT] at h
  | succ m ih =>
    intro n t row cs x h hsz hx
    simp only [flatT] at h
    have one : ∀ (c : CT) (y : RV) (v : Value), row = [c] → cs = [v] → Rr (allM W) y v → Okc c y → ∃ xs : List RV, xs.length = cs.length ∧ (∀ (j : Nat) y v, xs[j]? = some y → cs[j]? = some v → Rr (allM W) y v) ∧ RowOk row xs := fun c y v h1 h2 h3 h4 => by
      subst h1; subst h2
      refine ⟨[y], rfl, fun j y' v' hy hv => ?_, rfl, fun j c' y' hc hy => ?_⟩
      · cases j with
        | zero => simp at hy hv; subst hy; subst hv; exact h3
        | succ j => simp at hy
      · cases j with
        | zero => simp at hy hc; subst hy; subst hc; exact h4
        | succ j => simp at hy
    split at h
    · rename_i hu
      cases h
      obtain ⟨b, rfl, _⟩ := DataW.trod_bool hu hx
      exact one _ _ _ rfl rfl (.b b) (.b b)
    · rename_i k hu
      cases h
      obtain ⟨z, rfl, _, hz⟩ := DataW.trod_int hu hx
      exact one _ _ _ rfl rfl (.n k z) (.i k z hz)
    · rename_i hu
      cases h
      obtain ⟨z, rfl, _, hz⟩ := DataW.trod_string hu hx
      exact one _ (.s z.data.toList) _ rfl rfl (Rr.s (M := allM W) z.data.toList) (.s _ (by rw [Array.length_toList]; exact hz))
    · rename_i e hu
      split at h
      case h_2 => cases h
      rename_i r hr
      split at h
      case isFalse => cases h
      rename_i hrl
      obtain ⟨hrl, hrp⟩ := hrl
      cases h
      rcases DataW.trod_slice hu hx with ⟨rfl, _⟩ | ⟨a, len, cap, elems, rest, n', rfl, rfl, _, hb, hlc, hcm, hel, hat, _, _⟩
      · exact one _ (.ro none []) _ rfl rfl (.emp none 0 (Nat.zero_le _) fun _ => rfl) (.sl r [] (Nat.zero_le _) (fun r h => by simp at h) fun i j c x h1 h2 => by simp at h2)
      · rcases Nat.eq_zero_or_pos len with h0 | h0
        · subst h0
          exact one _ (.ro none []) _ rfl rfl (.emp (some a) cap hcm fun h => by cases h) (.sl r [] (Nat.zero_le _) (fun r h => by simp at h) fun i j c x h1 h2 => by simp at h2)
        · have hrow : ∀ i, i < len → ∃ xs : List RV, ∃ cs', W.cells? base (a.add (i * P.cellsOf e)) (P.cellsOf e) = some cs' ∧ xs.length = cs'.length ∧ (∀ (j : Nat) y v, xs[j]? = some y → cs'[j]? = some v → Rr (allM W) y v) ∧ RowOk r xs := fun i hi => by
            have h1 := hat i hi
            have h2 : elems[i]? = some elems[i] := List.getElem?_eq_getElem (by omega)
            rw [h2] at h1
            obtain ⟨cs', hcs, ht⟩ := Option.bind_eq_some_iff.1 h1
            obtain ⟨xs, k1, k2, k3⟩ := ih n' e r cs' _ hr hrl ht
            exact ⟨xs, cs', hcs, k1, k2, k3⟩
          obtain ⟨blk, off, spot⟩ := a
          have hspot : spot = none := by
            obtain ⟨xs, cs', hcs, k1, k2, k3⟩ := hrow 0 h0
            unfold World.cells? at hcs
            split at hcs
            case isFalse => cases hcs
            have hpos : 0 < P.cellsOf e := by omega
            have hg := mapM_some_get hcs 0 0 (List.getElem?_range hpos)
            have hl := mapM_some_length hcs
            simp at hl
            rw [List.getElem?_eq_getElem (by omega)] at hg
            have := World.cell?_spot hg
            simpa [Addr.add] using this
          subst hspot
          have hrow' : ∀ i, ∃ xs : List RV, i < len → ∃ cs', W.cells? base ⟨blk, off + i * P.cellsOf e, none⟩ (P.cellsOf e) = some cs' ∧ xs.length = cs'.length ∧ (∀ (j : Nat) y v, xs[j]? = some y → cs'[j]? = some v → Rr (allM W) y v) ∧ RowOk r xs := fun i => by
            by_cases hi : i < len
            · obtain ⟨xs, cs', h1, h2⟩ := hrow i hi
              rw [Addr.add_lit] at h1
              exact ⟨xs, fun _ => ⟨cs', h1, h2⟩⟩
            · exact ⟨[], fun h => absurd h hi⟩
          let row := fun i => Classical.choose (hrow' i)
          have hrw : ∀ i, i < len → ∃ cs', W.cells? base ⟨blk, off + i * P.cellsOf e, none⟩ (P.cellsOf e) = some cs' ∧ (row i).length = cs'.length ∧ (∀ (j : Nat) y v, (row i)[j]? = some y → cs'[j]? = some v → Rr (allM W) y v) ∧ RowOk r (row i) := fun i hi => Classical.choose_spec (hrow' i) hi
          let L := (List.range len).map row
          have hLl : L.length = len := by simp [L]
          have hLi : ∀ i, i < len → L[i]? = some (row i) := fun i hi => by simp [L, hi]
          have hLm : ∀ q ∈ L, q.length = r.length := fun q hq => by
            obtain ⟨i, hi, rfl⟩ := List.mem_map.1 hq
            obtain ⟨cs', _, _, _, h4⟩ := hrw i (List.mem_range.1 hi)
            exact h4.1
          have hcell : ∀ i j, i < len → j < r.length → ∃ v, W.cell? ⟨blk, off + (i * r.length + j), none⟩ = some v ∧ ∀ y, (row i)[j]? = some y → Rr (allM W) y v := fun i j hi hj => by
            obtain ⟨cs', h1, h2, h3, h4⟩ := hrw i hi
            obtain ⟨q1, q2⟩ := cells_at h1
            have hj' : j < cs'.length := by rw [q1, ← hrl]; exact hj
            have h5 := List.getElem?_eq_getElem hj'
            refine ⟨_, ?_, fun y hy => h3 j y _ hy h5⟩
            have := q2 j _ h5
            rw [← hrl, Nat.add_assoc] at this
            exact this
          obtain ⟨arr, el, f, hbw, _⟩ := cell_block (hcell 0 0 h0 hrp).choose_spec.1
          have harr : ∀ i j, i < len → j < r.length → ∃ v, arr[off + (i * r.length + j)]? = some v ∧ ∀ y, (row i)[j]? = some y → Rr (allM W) y v := fun i j hi hj => by
            obtain ⟨v, h1, h2⟩ := hcell i j hi hj
            rw [cell_at hbw] at h1
            exact ⟨v, h1, h2⟩
          have main := Rr.ro (M := allM W) r.length L blk off cap arr el f (fun i j => arr.getD (off + (i * r.length + j)) undef) (by simp [allM, hbw]) (by omega) hcm hLm
            (fun i j hi hj => by
              obtain ⟨v, h1, _⟩ := harr i j (by omega) hj
              rw [h1]
              simp only [Array.getD_eq_getD_getElem?, h1, Option.getD_some])
            (fun i j y hy => by
              have hi : i < len := by
                rcases Nat.lt_or_ge i len with h | h
                · exact h
                · rw [List.getElem?_eq_none (by omega)] at hy; cases hy
              rw [hLi i hi] at hy
              simp only [Option.bind_some] at hy
              have hj : j < r.length := by
                obtain ⟨cs', h1, h2, h3, h4⟩ := hrw i hi
                rw [← h4.1]; exact (List.getElem?_eq_some_iff.1 hy).1
              obtain ⟨v, h1, h2⟩ := harr i j hi hj
              simp only [Array.getD_eq_getD_getElem?, h1, Option.getD_some]
              exact h2 y hy)
          rw [hLl] at main
          refine one _ _ _ rfl rfl main (.sl r L (by rw [hLl]; omega) hLm fun i j c y hc hy => ?_)
          have hi : i < len := by
            rcases Nat.lt_or_ge i len with h | h
            · exact h
            · rw [List.getElem?_eq_none (by omega)] at hy; cases hy
          rw [hLi i hi] at hy
          obtain ⟨cs', h1, h2, h3, h4⟩ := hrw i hi
          exact h4.2 j c y hc hy
    · rename_i fs hu
      obtain ⟨xs, n', rfl, _, hcl, hxl, hall⟩ := DataW.trod_struct hu hx
      obtain ⟨ys, k1, k2, k3⟩ := view_fs (enc := enc) (base := base) (spare := spare) (held := held) (g := fun t => (flatT P m t).bind fun r => if r.length = P.cellsOf t then some r else none) (n := n') (fun t row cs x h1 h2 => by
        obtain ⟨r, h3, h4⟩ := Option.bind_eq_some_iff.1 h1
        split at h4
        case isFalse => cases h4
        rename_i h5
        cases h4
        exact ih n' t row cs x h3 h5 h2) fs.toList 0 row cs [] (by
          rw [← h]
          have : ∀ (l : List Field) (off : Nat), flatFs P (fun t => (flatT P m t).bind fun r => if r.length = P.cellsOf t then some r else none) l off = flatFs P (flatT P m) l off := by
            intro l
            induction l with
            | nil => intro off; rfl
            | cons f l ihl =>
              intro off
              simp only [flatFs, ihl]
              cases hf : flatT P m f.type with
              | none => rfl
              | some r =>
                by_cases h : r.length = P.cellsOf f.type
                · simp [h]
                · simp [h]
          exact this _ _) (by omega) (fun i f hf => by
            have h1 := hall i f (by simpa using hf)
            have hi : i < xs.length := by
              have := (List.getElem?_eq_some_iff.1 hf).1
              simp at this; omega
            rw [List.getElem?_eq_getElem hi] at h1
            exact ⟨_, h1⟩)
      refine ⟨ys, by omega, fun j y v hy hv => k2 j y v hy (by simpa using hv), k3⟩
    · cases h

/-- A struct that came in. -/
theorem arg_struct {m : Nat} {r : Reach} {b0 : Nat} {t : TypeId} {row : List CT} {fs : Array Field} {v : Value} {d : DataW H} {ps : List MemPlace} {ι : Nat → Option BI} (hu : P.underlying t = some (.struct fs)) (hf : flatT P m t = some row) (hn : row.length = P.cellsOf t)
    (hval : Value.okWide P W r b0 t v) (hd : DataW.Trod enc P W base spare held t v d ps) : ∃ xs, RowOk row xs ∧ Ar (allM W) ι (.agg (xs.map .r)) v := by
  simp only [Value.okWide, hu] at hval
  obtain ⟨cs, rfl, hsz, _⟩ := hval
  obtain ⟨n, hx⟩ := hd
  have hc : (Value.agg cs).cells.toList = cs.toList := rfl
  rw [hc] at hx
  obtain ⟨xs, k1, k2, k3⟩ := view_trod m n t row _ _ hf hn hx
  refine ⟨xs, k3, ?_⟩
  have hat : ∀ (j : Nat), j < xs.length → ∃ v, cs.toList[j]? = some v := fun j hj => ⟨_, List.getElem?_eq_getElem (by omega)⟩
  have := Ar.agg (M := allM W) (ι := ι) (xs.map .r) cs.toList (by simpa using k1.symm) (fun v hv => by
    obtain ⟨j, hj, rfl⟩ := List.getElem_of_mem hv
    exact (k2 j xs[j] _ (List.getElem?_eq_getElem (by omega)) (List.getElem?_eq_getElem hj)).one) (fun j c v hc hv => by
    rw [List.getElem?_map] at hc
    cases hj : xs[j]? with
    | none => rw [hj] at hc; cases hc
    | some y => rw [hj] at hc; simp at hc; subst hc; exact .r _ _ (k2 j y v hj hv))
  simpa using this
/-- A slice that came in. -/
theorem arg_slice {m : Nat} {r : Reach} {b0 : Nat} {t e : TypeId} {row : List CT} {v : Value} {d : DataW H} {ps : List MemPlace} {ι : Nat → Option BI} (hu : P.underlying t = some (.slice e)) (hf : flatT P m t = some [.sl row]) (hn : 1 = P.cellsOf t)
    (hval : Value.okWide P W r b0 t v) (hd : DataW.Trod enc P W base spare held t v d ps) : ∃ L, Okc (.sl row) (.ro none L) ∧ Ar (allM W) ι (.r (.ro none L)) v := by
  obtain ⟨a, len, cap, rfl⟩ := okWide_slice hu hval
  obtain ⟨n, hx⟩ := hd
  have hc : (Value.slice a len cap).cells.toList = [.slice a len cap] := by simp [Value.cells]
  rw [hc] at hx
  obtain ⟨xs, k1, k2, k3⟩ := view_trod m n t _ _ _ hf hn hx
  match xs, k1 with
  | [y], _ =>
    have h1 := k3.2 0 _ y rfl rfl
    have h2 := k2 0 y _ rfl rfl
    cases h1 with
    | sl _ L hl hr h => exact ⟨L, .sl row L hl hr h, .r _ _ h2⟩
theorem arg_int {r : Reach} {b0 : Nat} {t : TypeId} {k : IntKind} {v : Value} {d : DataW H} {ps : List MemPlace} {ι : Nat → Option BI} (hu : P.underlying t = some (.int k)) (hval : Value.okWide P W r b0 t v) (hd : DataW.Trod enc P W base spare held t v d ps) :
    ∃ x, (Lit.int k x).wf = true ∧ Ar (allM W) ι (.r (.n k x)) v := by
  obtain ⟨n, rfl, _, _, h⟩ := open_int hu hval hd
  exact ⟨n, h, .r _ _ (.n k n)⟩
theorem arg_bool {r : Reach} {b0 : Nat} {t : TypeId} {v : Value} {d : DataW H} {ps : List MemPlace} {ι : Nat → Option BI} (hu : P.underlying t = some .bool) (hval : Value.okWide P W r b0 t v) (hd : DataW.Trod enc P W base spare held t v d ps) :
    ∃ x, Ar (allM W) ι (.bo x) v := by
  obtain ⟨n, rfl, _, _⟩ := open_bool hu hval hd
  exact ⟨n, .r _ _ (.b n)⟩
end
end Go.Cap

/- The engine, part 26: from a law's contract to its call. -/
namespace Go.Cap
open Go Go.RowKit
set_option linter.unusedVariables false
set_option linter.unusedSimpArgs false

theorem Spec.mono {P : Program} {f m : Nat} {H : List (Nat × Blk)} {args : List AV} {Q Q' : AV → List (Nat × Blk) → Nat → List Nat → Prop} (h : Spec P f m H args Q) (hq : ∀ r hp nx gs, Q r hp nx gs → Q' r hp nx gs) : Spec P f m H args Q' := by
  intro M ι w X nt hw vs ha
  refine (h M ι w X nt hw vs ha).mono fun e w' he => ?_
  obtain ⟨v, r, hp', nx', gs', M', ι', h1, h2, h3, h4⟩ := he
  exact ⟨v, r, hp', nx', gs', M', ι', h1, h2, hq _ _ _ _ h3, h4⟩

theorem calls_true {P : Program} {f : Nat} {args : List AV} {vs : List Value} {w : World} (hs : Spec P f 0 [] args (fun r _ _ _ => r = .bo true)) (ha : Args (allM w) (fun _ => none) args vs) :
    Calls P f vs.toArray w fun e w' => e = .returned (.bool true) ∧ Below w.heap.size w w' :=
  calls_of_spec (hs.mono fun r _ _ _ h M ι u hr => by subst h; exact hr.rb) ha

theorem args_nil {M : Mem} {ι : Nat → Option BI} : Args M ι [] [] := ⟨rfl, fun j c v h => by simp at h⟩
theorem args_cons {M : Mem} {ι : Nat → Option BI} {x : AV} {v : Value} {xs : List AV} {vs : List Value} (h : Ar M ι x v) (hs : Args M ι xs vs) : Args M ι (x :: xs) (v :: vs) :=
  ⟨by simp [hs.1], fun j c u h1 h2 => by
    cases j with
    | zero => simp at h1 h2; subst h1; subst h2; exact h
    | succ j => exact hs.2 j c u (by simpa using h1) (by simpa using h2)⟩
end Go.Cap

/- The engine, part 27: code evaluated as a whole; calls of functions with flat results. -/
namespace Go.Cap
open Go
set_option linter.unusedSimpArgs false
set_option linter.unusedVariables false

def iteV (v : AV) (A B : Prop) : Prop := match v with
  | .r (.b t) => (t = true → A) ∧ (t = false → B)
  | _ => False
@[go_sem] theorem iteV_b (t : Bool) (A B : Prop) : iteV (.r (.b t)) A B = ((t = true → A) ∧ (t = false → B)) := (rfl)
@[go_sem high] theorem iteV_true (A B : Prop) : iteV (.r (.b true)) A B = A := by simp [iteV]
@[go_sem high] theorem iteV_false (A B : Prop) : iteV (.r (.b false)) A B = B := by simp [iteV]
theorem iteV_congr {v v' : AV} {A B : Prop} (h : v = v') : iteV v A B = iteV v' A B := by rw [h]

/-- What is asked of a state ahead of code. -/
def wpc (c : Cx) : PC → St → (St → Prop) → (Nat → St → Prop) → (St → Prop) → Prop
  | .rg l, s, n, _, _ => ev c l s n
  | .dr _ t k, s, n, _, _ => evT c (fun s' => n { s' with sl := k.map fun i => (i, get s'.sl i) }) [] t s
  | .seq p q, s, n, x, r => wpc c p s (fun s' => wpc c q s' n x r) x r
  | .ite o p q, s, n, x, r => iteV (o.ev s.sl) (wpc c p s n x r) (wpc c q s n x r)
  | .blk i p, s, n, x, r => wpc c p s n (fun j s' => if j = i then n s' else x j s') r
  | .lp p, s, n, x, r => Run c (.lp p) s n x r
  | .ex i, s, _, x, _ => x i s
  | .sk, s, n, _, _ => n s
  | .rt, s, _, _, r => r s

section
variable {c : Cx}
theorem run_wpc : ∀ (p : PC) (s : St) (n : St → Prop) (x : Nat → St → Prop) (r : St → Prop), wpc c p s n x r → Run c p s n x r
  | .rg l, s, n, x, r, h => run_rg h
  | .dr A t k, s, n, x, r, h => run_dr h
  | .seq p q, s, n, x, r, h => run_seq (run_mono (run_wpc p s _ x r h) (fun s' hs => run_wpc q s' n x r hs) (fun _ _ h => h) (fun _ h => h))
  | .ite o p q, s, n, x, r, h => by
    simp only [wpc] at h
    unfold iteV at h
    split at h
    case h_2 => exact h.elim
    rename_i t ht
    exact run_ite ht (fun e => run_wpc p s n x r (h.1 e)) (fun e => run_wpc q s n x r (h.2 e))
  | .blk i p, s, n, x, r, h => run_blk (run_wpc p s n _ r h)
  | .lp p, s, n, x, r, h => h
  | .ex i, s, n, x, r, h => run_ex h
  | .sk, s, n, x, r, h => run_sk h
  | .rt, s, n, x, r, h => run_rt h

/-- The loop, with its body evaluated. -/
theorem lp_wpc {p : PC} {s : St} {n : St → Prop} {x : Nat → St → Prop} {r : St → Prop} {α : Type} (S : α → St) (C : α → Prop) (μ : α → Nat) (y0 : α) (h0 : C y0) (hs0 : Le c s (S y0))
    (hb : ∀ y, C y → wpc c p (S y) (fun s' => ∃ y', C y' ∧ μ y' < μ y ∧ Le c s' (S y')) x r) : Run c (.lp p) s n x r :=
  run_lp S C μ y0 h0 hs0 fun y hy => run_wpc _ _ _ _ _ (hb y hy)

variable {s s' : St} {n : St → Prop} {x : Nat → St → Prop} {r : St → Prop}
@[go_sem] theorem wpc_rg (l : List GOp) : wpc c (.rg l) s n x r = ev c l s n := (rfl)
@[go_sem] theorem wpc_dr (A : List (List Nat)) (t : OT) (k : List Nat) : wpc c (.dr A t k) s n x r = evT c (fun s' => n { s' with sl := k.map fun i => (i, get s'.sl i) }) [] t s := (rfl)
@[go_sem] theorem wpc_seq (p q : PC) : wpc c (.seq p q) s n x r = wpc c p s (fun s' => wpc c q s' n x r) x r := (rfl)
@[go_sem] theorem wpc_ite (o : Opd) (p q : PC) : wpc c (.ite o p q) s n x r = iteV (o.ev s.sl) (wpc c p s n x r) (wpc c q s n x r) := (rfl)
@[go_sem] theorem wpc_blk (i : Nat) (p : PC) : wpc c (.blk i p) s n x r = wpc c p s n (fun j s' => if j = i then n s' else x j s') r := (rfl)
@[go_sem] theorem wpc_lp (p : PC) : wpc c (.lp p) s n x r = Run c (.lp p) s n x r := (rfl)
@[go_sem] theorem wpc_ex (i : Nat) : wpc c (.ex i) s n x r = x i s := (rfl)
@[go_sem] theorem wpc_sk : wpc c .sk s n x r = n s := (rfl)
@[go_sem] theorem wpc_rt : wpc c .rt s n x r = r s := (rfl)
theorem wpc_congr {p : PC} (h : s = s') : wpc c p s n x r = wpc c p s' n x r := by rw [h]
@[go_sem] theorem ret_def (rs : List RO) (Q : AV → List (Nat × Blk) → Nat → List Nat → Prop) : Ret rs Q s = resK rs s fun vs => Q (mkRes vs) s.hp s.nx s.gs := (rfl)
end
attribute [congr] iteV_congr wpc_congr

/-- Arguments as a function that only reads sees them. -/
inductive Vws (hp : List (Nat × Blk)) : List AV → List AV → Prop
  | nil : Vws hp [] []
  | cons {a a0 : AV} {as as0 : List AV} (h : Vw hp a a0) (hs : Vws hp as as0) : Vws hp (a :: as) (a0 :: as0)
theorem Vws.spec {hp : List (Nat × Blk)} : ∀ {as as0 : List AV}, Vws hp as as0 → as.length = as0.length ∧ ∀ (j : Nat) a a0, as[j]? = some a → as0[j]? = some a0 → Vw hp a a0
  | _, _, .nil => ⟨rfl, fun j a a0 h => by simp at h⟩
  | _, _, .cons h hs => by
    obtain ⟨h1, h2⟩ := hs.spec
    refine ⟨by simp [h1], fun j a a0 ha ha0 => ?_⟩
    cases j with
    | zero => simp at ha ha0; subst ha; subst ha0; exact h
    | succ j => exact h2 j a a0 (by simpa using ha) (by simpa using ha0)
theorem vw_agg {hp : List (Nat × Blk)} {cs cs' : List AV} (h : Vws hp cs cs') : Vw hp (.agg cs) (.agg cs') := by
  obtain ⟨h1, h2⟩ := h.spec
  exact .agg cs cs' h1.symm h2
theorem vws_refl {hp : List (Nat × Blk)} : ∀ (l : List RV), Vws hp (l.map .r) (l.map .r)
  | [] => .nil
  | x :: l => .cons (.r x) (vws_refl l)

/-- Values without references to own blocks. -/
def plainA : AV → Bool
  | .r _ => true
  | .agg cs => plainL cs
  | .junk => true
  | _ => false
where plainL : List AV → Bool
  | [] => true
  | v :: l => plainA v && plainL l
mutual
theorem vw_self (hp : List (Nat × Blk)) : ∀ (x : AV), plainA x = true → Vw hp x x
  | .r x, _ => .r x
  | .agg cs, h => vw_agg (vws_self hp cs h)
  | .junk, _ => .junk _
  | .ptr .., h => by cases h
  | .sl .., h => by cases h
  | .rp .., h => by cases h
  | .tup .., h => by cases h
  | .fn .., h => by cases h
theorem vws_self (hp : List (Nat × Blk)) : ∀ (l : List AV), plainA.plainL l = true → Vws hp l l
  | [], _ => .nil
  | x :: l, h => by
    simp only [plainA.plainL, Bool.and_eq_true] at h
    exact .cons (vw_self hp x h.1) (vws_self hp l h.2)
end
theorem plainL_map (l : List RV) : plainA.plainL (l.map .r) = true := by
  induction l with
  | nil => rfl
  | cons x l ih => simp [plainA.plainL, plainA, ih]

theorem call_flat {c : Cx} {s : St} {f : Nat} {as0 args : List AV} {v : AV} {K : AV → St → Prop} (hs : Spec c.P f 0 [] as0 (fun r _ _ _ => r = v)) (hf : flatA v = true) (ha : Vws s.hp args as0) (hK : K v s) : Call c f args s K :=
  call_view hs ha.spec fun r _ _ _ hr => by subst hr; exact ⟨hf, hK⟩
theorem call_pure {c : Cx} {s : St} {f : Nat} {args : List AV} {v : AV} {K : AV → St → Prop} (hs : Spec c.P f 0 [] args (fun r _ _ _ => r = v)) (hf : flatA v = true) (ha : plainA.plainL args = true) (hK : K v s) : Call c f args s K :=
  call_flat hs hf (vws_self _ _ ha) hK
/-- A flat result of which something is known. -/
theorem call_flatQ {c : Cx} {s : St} {f : Nat} {as0 args : List AV} {Q : AV → Prop} {K : AV → St → Prop} (hs : Spec c.P f 0 [] as0 (fun r _ _ _ => Q r)) (ha : Vws s.hp args as0) (hK : ∀ r, Q r → flatA r = true ∧ K r s) : Call c f args s K :=
  call_view hs ha.spec fun r _ _ _ hr => hK r hr
end Go.Cap

/- The engine, part 28: equations for the operations that write. -/
namespace Go.Cap
open Go
set_option linter.unusedSimpArgs false
set_option linter.unusedVariables false

def okO {α : Type} (o : Option α) (K : α → Prop) : Prop := match o with
  | some a => K a
  | none => False
@[go_sem] theorem okO_some {α : Type} (a : α) (K : α → Prop) : okO (some a) K = K a := (rfl)
theorem okO_congr {α : Type} {o o' : Option α} {K : α → Prop} (h : o = o') : okO o K = okO o' K := by rw [h]

section
variable (c : Cx) (sl : List (Nat × AV)) (hp : List (Nat × Blk)) (nx : Nat) (gs : List Nat) (K : St → Prop) (d : Nat)

@[go_sem] theorem e_bx (x : Opd) : ev1 c (.bx d x) ⟨sl, hp, nx, gs⟩ K = okO (x.ev sl).cells fun cs => K ⟨(d, .ptr nx 0 0) :: sl, (nx, .var cs) :: hp, nx + 1, gs⟩ := by
  simp only [ev1, okO]; cases (x.ev sl).cells <;> rfl
@[go_sem] theorem e_bs (sz len : Nat) (z : List RV) (ps : List (Nat × Opd)) : ev1 c (.bs d sz len z ps) ⟨sl, hp, nx, gs⟩ K =
    okO (fillR sz (List.replicate len z) (ps.map fun p => (p.1, p.2.ev sl))) fun L => K ⟨(d, .sl nx 0 len) :: sl, (nx, .row sz L) :: hp, nx + 1, gs⟩ := by
  simp only [ev1, okO]; cases fillR sz (List.replicate len z) (ps.map fun p => (p.1, p.2.ev sl)) <;> rfl
/-- A store at a block. -/
def stB (sz b i f : Nat) (vs : List AV) (B : Option Blk) (sl : List (Nat × AV)) (hp : List (Nat × Blk)) (nx : Nat) (gs : List Nat) (K : St → Prop) : Prop := match B with
  | some (.var cs) => (i = 0 ∧ f + sz ≤ cs.length) ∧ K ⟨sl, hset hp b (.var (lay cs f vs)), nx, gs⟩
  | some (.row n L) => okO (rvs vs) fun rs => (i < L.length ∧ f + sz ≤ n) ∧ K ⟨sl, hset hp b (.row n (L.set i (if sz = n then rs else layR (L.getD i []) f rs))), nx, gs⟩
  | none => False
def stP (sz : Nat) (a : AV) (o : Option (List AV)) (sl : List (Nat × AV)) (hp : List (Nat × Blk)) (nx : Nat) (gs : List Nat) (K : St → Prop) : Prop := match a, o with
  | .ptr b i f, some vs => vs.length = sz ∧ stB sz b i f vs (hget hp b) sl hp nx gs K
  | _, _ => False
@[go_sem] theorem e_st (sz : Nat) (a x : Opd) : ev1 c (.st sz a x) ⟨sl, hp, nx, gs⟩ K = stP sz (a.ev sl) (x.ev sl).cells sl hp nx gs K := by
  simp only [ev1, stP, stB, okO]
  cases a.ev sl with
  | ptr b i f => cases (x.ev sl).cells with
    | none => rfl
    | some vs =>
      dsimp only
      cases hget hp b with
      | none => rfl
      | some B => cases B with
        | var cs => rfl
        | row n L =>
          dsimp only
          cases hr : rvs vs with
          | none => rfl
          | some rs => rfl
  | _ => rfl
@[go_sem] theorem stP_ptr (sz b i f : Nat) (vs : List AV) : stP sz (.ptr b i f) (some vs) sl hp nx gs K = (vs.length = sz ∧ stB sz b i f vs (hget hp b) sl hp nx gs K) := (rfl)
@[go_sem] theorem stB_var (sz b i f : Nat) (vs cs : List AV) : stB sz b i f vs (some (.var cs)) sl hp nx gs K = ((i = 0 ∧ f + sz ≤ cs.length) ∧ K ⟨sl, hset hp b (.var (lay cs f vs)), nx, gs⟩) := (rfl)
@[go_sem] theorem stB_row (sz b i f n : Nat) (vs : List AV) (L : List (List RV)) : stB sz b i f vs (some (.row n L)) sl hp nx gs K =
    okO (rvs vs) fun rs => (i < L.length ∧ f + sz ≤ n) ∧ K ⟨sl, hset hp b (.row n (L.set i (if sz = n then rs else layR (L.getD i []) f rs))), nx, gs⟩ := rfl
theorem stP_congr {sz : Nat} {a a' : AV} {o o' : Option (List AV)} {sl : List (Nat × AV)} {hp : List (Nat × Blk)} {nx : Nat} {gs : List Nat} {K : St → Prop} (h : a = a') (h' : o = o') : stP sz a o sl hp nx gs K = stP sz a' o' sl hp nx gs K := by rw [h, h']
theorem stB_congr {sz b i f : Nat} {vs vs' : List AV} {B B' : Option Blk} {sl : List (Nat × AV)} {hp : List (Nat × Blk)} {nx : Nat} {gs : List Nat} {K : St → Prop} (h : B = B') (h' : vs = vs') : stB sz b i f vs B sl hp nx gs K = stB sz b i f vs' B' sl hp nx gs K := by rw [h, h']

def newB (sz st n : Nat) (B : Option Blk) : Option (Prop × List (List RV)) := match B with
  | some (.row m L) => if m = sz then some (st + n ≤ L.length, (L.drop st).take n) else none
  | _ => none
@[go_sem] theorem newRows_nil (sz : Nat) : newRows hp sz (.r .nil) = some (True, []) := (rfl)
@[go_sem] theorem newRows_ro (sz : Nat) (g : Option Nat) (L : List (List RV)) : newRows hp sz (.r (.ro g L)) = some (rowsN sz L, L) := (rfl)
@[go_sem] theorem newRows_sl (sz b st n : Nat) : newRows hp sz (.sl b st n) = newB sz st n (hget hp b) := by
  simp only [newRows, newB]; cases hget hp b with
  | none => rfl
  | some B => cases B <;> rfl
@[go_sem] theorem newB_row (sz st n m : Nat) (L : List (List RV)) : newB sz st n (some (.row m L)) = if m = sz then some (st + n ≤ L.length, (L.drop st).take n) else none := (rfl)
def apB (m b n sz bytes : Nat) (p : Prop) (news : List (List RV)) (B : Option Blk) (d : Nat) (sl : List (Nat × AV)) (hp : List (Nat × Blk)) (nx : Nat) (gs : List Nat) (K : St → Prop) : Prop := match B with
  | some (.row n' L) => n' = sz ∧ ((p ∧ n ≤ L.length ∧ (n + news.length) * bytes ≤ 140737488355328) ∧
      if b < m then K ⟨(d, .sl nx 0 (n + news.length)) :: killS b sl, (nx, .row sz (L.take n ++ news)) :: hdel (killH b hp) b, nx + 1, gs⟩
      else K ⟨(d, .sl b 0 (n + news.length)) :: killS b sl, (b, .row sz (L.take n ++ news)) :: hdel (killH b hp) b, nx, gs⟩)
  | _ => False
def apX (m sz bytes : Nat) (x : AV) (p : Prop) (news : List (List RV)) (d : Nat) (sl : List (Nat × AV)) (hp : List (Nat × Blk)) (nx : Nat) (gs : List Nat) (K : St → Prop) : Prop := match x with
  | .sl b st n => st = 0 ∧ apB m b n sz bytes p news (hget hp b) d sl hp nx gs K
  | .r .nil => (p ∧ news.length * bytes ≤ 140737488355328) ∧ K ⟨(d, .sl nx 0 news.length) :: sl, (nx, .row sz news) :: hp, nx + 1, gs⟩
  | _ => False
@[go_sem] theorem e_ap (sz bytes : Nat) (x y : Opd) : ev1 c (.ap d sz bytes x y) ⟨sl, hp, nx, gs⟩ K = okO (newRows hp sz (y.ev sl)) fun pn => apX c.m sz bytes (x.ev sl) pn.1 pn.2 d sl hp nx gs K := by
  simp only [ev1, okO, apX, apB]
  cases newRows hp sz (y.ev sl) with
  | none => rfl
  | some pn =>
    obtain ⟨p, news⟩ := pn
    simp only
    cases x.ev sl with
    | r v => cases v <;> rfl
    | sl b st n => cases hget hp b with
      | none => rfl
      | some B => cases B <;> rfl
    | _ => rfl
@[go_sem] theorem apX_sl (m sz bytes b st n : Nat) (p : Prop) (news : List (List RV)) : apX m sz bytes (.sl b st n) p news d sl hp nx gs K = (st = 0 ∧ apB m b n sz bytes p news (hget hp b) d sl hp nx gs K) := (rfl)
@[go_sem] theorem apX_nil (m sz bytes : Nat) (p : Prop) (news : List (List RV)) : apX m sz bytes (.r .nil) p news d sl hp nx gs K = ((p ∧ news.length * bytes ≤ 140737488355328) ∧ K ⟨(d, .sl nx 0 news.length) :: sl, (nx, .row sz news) :: hp, nx + 1, gs⟩) := (rfl)
@[go_sem] theorem apB_row (m b n sz bytes : Nat) (p : Prop) (news : List (List RV)) (n' : Nat) (L : List (List RV)) : apB m b n sz bytes p news (some (.row n' L)) d sl hp nx gs K =
    (n' = sz ∧ ((p ∧ n ≤ L.length ∧ (n + news.length) * bytes ≤ 140737488355328) ∧
      if b < m then K ⟨(d, .sl nx 0 (n + news.length)) :: killS b sl, (nx, .row sz (L.take n ++ news)) :: hdel (killH b hp) b, nx + 1, gs⟩
      else K ⟨(d, .sl b 0 (n + news.length)) :: killS b sl, (b, .row sz (L.take n ++ news)) :: hdel (killH b hp) b, nx, gs⟩)) := rfl
theorem apX_congr {m m' sz bytes : Nat} {x x' : AV} {p : Prop} {news news' : List (List RV)} {d : Nat} {sl : List (Nat × AV)} {hp : List (Nat × Blk)} {nx : Nat} {gs : List Nat} {K : St → Prop} (hm : m = m') (h : x = x') (h' : news = news') :
    apX m sz bytes x p news d sl hp nx gs K = apX m' sz bytes x' p news' d sl hp nx gs K := by rw [hm, h, h']
theorem apB_congr {m b n sz bytes : Nat} {p : Prop} {news : List (List RV)} {B B' : Option Blk} {d : Nat} {sl : List (Nat × AV)} {hp : List (Nat × Blk)} {nx : Nat} {gs : List Nat} {K : St → Prop} (h : B = B') :
    apB m b n sz bytes p news B d sl hp nx gs K = apB m b n sz bytes p news B' d sl hp nx gs K := by rw [h]

def mkN (v : AV) (sz bytes : Nat) (z : List RV) (d : Nat) (sl : List (Nat × AV)) (hp : List (Nat × Blk)) (nx : Nat) (gs : List Nat) (K : St → Prop) : Prop := match v with
  | .r (.n _ x) => (0 ≤ x ∧ (bytes : Int) * x ≤ 281474976710656) ∧ K ⟨(d, .sl nx 0 x.toNat) :: sl, (nx, .row sz (List.replicate x.toNat z)) :: hp, nx + 1, gs⟩
  | _ => False
@[go_sem] theorem e_mk (sz bytes : Nat) (z : List RV) (n : Opd) : ev1 c (.mk d sz bytes z n) ⟨sl, hp, nx, gs⟩ K = mkN (n.ev sl) sz bytes z d sl hp nx gs K := by
  simp only [ev1, mkN]; cases n.ev sl with
  | r v => cases v <;> rfl
  | _ => rfl
@[go_sem] theorem mkN_n (k : IntKind) (x : Int) (sz bytes : Nat) (z : List RV) : mkN (.r (.n k x)) sz bytes z d sl hp nx gs K = ((0 ≤ x ∧ (bytes : Int) * x ≤ 281474976710656) ∧ K ⟨(d, .sl nx 0 x.toNat) :: sl, (nx, .row sz (List.replicate x.toNat z)) :: hp, nx + 1, gs⟩) := (rfl)
theorem mkN_congr {v v' : AV} {sz bytes : Nat} {z : List RV} {d : Nat} {sl : List (Nat × AV)} {hp : List (Nat × Blk)} {nx : Nat} {gs : List Nat} {K : St → Prop} (h : v = v') : mkN v sz bytes z d sl hp nx gs K = mkN v' sz bytes z d sl hp nx gs K := by rw [h]

def cfP (c : Cx) (f' : Nat) (v : AV) (as : List AV) (s : St) (o : Option Nat) (K : St → Prop) : Prop := match v with
  | .fn f caps => f = f' ∧ Call c f (as ++ caps) s (fun r s' => K (putO s' o r))
  | _ => False
@[go_sem] theorem e_cf (o : Option Nat) (f' : Nat) (x : Opd) (args : List Opd) : ev1 c (.cf o f' x args) ⟨sl, hp, nx, gs⟩ K = cfP c f' (x.ev sl) (args.map fun x => x.ev sl) ⟨sl, hp, nx, gs⟩ o K := by
  simp only [ev1, cfP]; cases x.ev sl <;> rfl
@[go_sem] theorem cfP_fn (f' f : Nat) (caps as : List AV) (s : St) (o : Option Nat) : cfP c f' (.fn f caps) as s o K = (f = f' ∧ Call c f (as ++ caps) s (fun r s' => K (putO s' o r))) := (rfl)
theorem cfP_congr {c : Cx} {f' : Nat} {v v' : AV} {as as' : List AV} {s s' : St} {o : Option Nat} {K : St → Prop} (h : v = v') (h1 : as = as') (h2 : s = s') : cfP c f' v as s o K = cfP c f' v' as' s' o K := by rw [h, h1, h2]
end
attribute [congr] okO_congr stP_congr stB_congr apX_congr apB_congr mkN_congr cfP_congr

def okQ (o : Option (List AV)) : QR := match o with
  | some cs => .val (.agg cs)
  | none => .bad
@[go_sem] theorem okQ_some (cs : List AV) : okQ (some cs) = .val (.agg cs) := (rfl)
@[go_sem] theorem bldA_eq (z : List RV) (ps : List (Nat × Nat × AV)) : bldA z ps = okQ (fillA (z.map .r) ps) := by
  simp only [bldA, okQ]; cases fillA (z.map .r) ps <;> rfl
@[go_sem] theorem fillA_nil (cs : List AV) : fillA cs [] = some cs := (rfl)
def fillA1 (cs : List AV) (off sz : Nat) (o : Option (List AV)) (ps : List (Nat × Nat × AV)) : Option (List AV) := match o with
  | some vs => if vs.length = sz ∧ off + sz ≤ cs.length then fillA (lay cs off vs) ps else none
  | none => none
@[go_sem] theorem fillA_cons (cs : List AV) (off sz : Nat) (v : AV) (ps : List (Nat × Nat × AV)) : fillA cs ((off, sz, v) :: ps) = fillA1 cs off sz v.cells ps := by
  simp only [fillA, fillA1]; cases v.cells <;> rfl
@[go_sem] theorem fillA1_some (cs : List AV) (off sz : Nat) (vs : List AV) (ps : List (Nat × Nat × AV)) : fillA1 cs off sz (some vs) ps = if vs.length = sz ∧ off + sz ≤ cs.length then fillA (lay cs off vs) ps else none := (rfl)
@[go_sem] theorem fillR_nil (sz : Nat) (L : List (List RV)) : fillR sz L [] = some L := (rfl)
def fillR1 (sz : Nat) (L : List (List RV)) (i : Nat) (o : Option (List AV)) (ps : List (Nat × AV)) : Option (List (List RV)) := match o with
  | some vs => (match rvs vs with
    | some rs => if rs.length = sz ∧ i < L.length then fillR sz (L.set i rs) ps else none
    | none => none)
  | none => none
def fillR2 (sz : Nat) (L : List (List RV)) (i : Nat) (o : Option (List RV)) (ps : List (Nat × AV)) : Option (List (List RV)) := match o with
  | some rs => if rs.length = sz ∧ i < L.length then fillR sz (L.set i rs) ps else none
  | none => none
@[go_sem] theorem fillR_cons (sz : Nat) (L : List (List RV)) (i : Nat) (v : AV) (ps : List (Nat × AV)) : fillR sz L ((i, v) :: ps) = fillR1 sz L i v.cells ps := by
  simp only [fillR, fillR1]; cases v.cells with
  | none => rfl
  | some vs => cases hr : rvs vs <;> simp only [hr]
@[go_sem] theorem fillR1_some (sz : Nat) (L : List (List RV)) (i : Nat) (vs : List AV) (ps : List (Nat × AV)) : fillR1 sz L i (some vs) ps = fillR2 sz L i (rvs vs) ps := by
  simp only [fillR1, fillR2]
@[go_sem] theorem fillR2_some (sz : Nat) (L : List (List RV)) (i : Nat) (rs : List RV) (ps : List (Nat × AV)) : fillR2 sz L i (some rs) ps = if rs.length = sz ∧ i < L.length then fillR sz (L.set i rs) ps else none := (rfl)
@[go_sem] theorem lay_one (cs : List AV) (f : Nat) (v : AV) : lay cs f [v] = cs.set f v := (rfl)
@[go_sem] theorem layR_one (cs : List RV) (f : Nat) (v : RV) : layR cs f [v] = cs.set f v := (rfl)
@[go_sem] theorem lay_two (cs : List AV) (f : Nat) (v u : AV) (l : List AV) : lay cs f (v :: u :: l) = cs.take f ++ (v :: u :: l) ++ cs.drop (f + (v :: u :: l).length) := (rfl)
@[go_sem] theorem layR_two (cs : List RV) (f : Nat) (v u : RV) (l : List RV) : layR cs f (v :: u :: l) = cs.take f ++ (v :: u :: l) ++ cs.drop (f + (v :: u :: l).length) := (rfl)
@[go_sem] theorem lay_nil (cs : List AV) (f : Nat) : lay cs f [] = cs := by simp [lay]

end Go.Cap

/- The engine, part 29: helpers for contracts. -/
namespace Go.Cap
open Go
set_option linter.unusedSimpArgs false
set_option linter.unusedVariables false

/-- Something holds of a state that stands for less. -/
def wk (c : Cx) (n : St → Prop) (s : St) : Prop := ∃ t, Le c s t ∧ n t
theorem wk_self {c : Cx} {n : St → Prop} {s : St} (h : n s) : wk c n s := ⟨s, Le.refl s, h⟩
theorem run_wk {c : Cx} {p : PC} {s : St} {n r : St → Prop} {x : Nat → St → Prop} (h : Run c p s (wk c n) x (wk c r)) : Run c p s n x r := by
  intro code hc M ι a w hs
  refine wp_mono (h code hc M ι a w hs) fun e a' w' hq => ?_
  cases e with
  | normal =>
    obtain ⟨s', M', ι', ⟨t, hl, hn⟩, hs'⟩ := hq
    obtain ⟨M2, ι2, h2⟩ := hl M' ι' a' w' hs'
    exact ⟨t, M2, ι2, hn, h2⟩
  | exit k => exact hq
  | ret =>
    obtain ⟨s', M', ι', ⟨t, hl, hn⟩, hs'⟩ := hq
    obtain ⟨M2, ι2, h2⟩ := hl M' ι' a' w' hs'
    exact ⟨t, M2, ι2, hn, h2⟩
  | goto l => exact hq
  | panic ch => exact hq
  | outgrown => exact hq
/-- The state at an exit may be replaced. -/
theorem run_exit {c : Cx} {p : PC} {s : St} {n r : St → Prop} {x : Nat → St → Prop} (k : Nat) (D : St → Prop) (h : Run c p s n (fun j s' => if j = k then ∃ t, D t ∧ Le c s' t else x j s') r) (hx : ∀ t, D t → x k t) : Run c p s n x r := by
  intro code hc M ι a w hs
  refine wp_mono (h code hc M ι a w hs) fun e a' w' hq => ?_
  cases e with
  | exit j =>
    obtain ⟨s', M', ι', hK, hs'⟩ := hq
    by_cases hj : j = k
    · subst hj
      rw [if_pos rfl] at hK
      obtain ⟨t, hD, hl⟩ := hK
      obtain ⟨M2, ι2, h2⟩ := hl M' ι' a' w' hs'
      exact ⟨t, M2, ι2, hx t hD, h2⟩
    · rw [if_neg hj] at hK
      exact ⟨s', M', ι', hK, hs'⟩
  | normal => exact hq
  | ret => exact hq
  | goto l => exact hq
  | panic ch => exact hq
  | outgrown => exact hq
theorem le_eq {c : Cx} {s t : St} (h : s = t) : Le c s t := h ▸ Le.refl s

theorem Vw.full {hp : List (Nat × Blk)} {b n sz : Nat} {L : List (List RV)} (h : hget hp b = some (.row sz L)) (hn : n = L.length) : Vw hp (.sl b 0 n) (.r (.ro none L)) := by
  subst hn
  have := Vw.sl b 0 L.length sz L h (by omega)
  simpa using this

theorem wrap64 {x : Int} (h1 : -9223372036854775808 ≤ x) (h2 : x ≤ 9223372036854775807) : IntKind.i64.wrap x = x := by
  have e : (2 : Int) ^ IntKind.i64.bits = 18446744073709551616 := by decide
  have e2 : (2 : Int) ^ (IntKind.i64.bits - 1) = 9223372036854775808 := by decide
  have e3 : IntKind.i64.signed = true := by decide
  simp only [IntKind.wrap, e, e2, e3, Bool.true_and, decide_eq_true_eq]
  split <;> omega
theorem wrapU8 {x : Int} (h1 : 0 ≤ x) (h2 : x ≤ 255) : IntKind.u8.wrap x = x := by
  have e : (2 : Int) ^ IntKind.u8.bits = 256 := by decide
  have e3 : IntKind.u8.signed = false := by decide
  simp only [IntKind.wrap, e, e3, Bool.false_and, Bool.false_eq_true, if_false]
  omega

theorem rowOk_nil {xs : List RV} (h : RowOk [] xs) : xs = [] := List.eq_nil_of_length_eq_zero h.1
theorem rowOk_cons {c : CT} {row : List CT} {xs : List RV} (h : RowOk (c :: row) xs) : ∃ x xs', xs = x :: xs' ∧ Okc c x ∧ RowOk row xs' := by
  cases xs with
  | nil => have := h.1; simp at this
  | cons x xs =>
    refine ⟨x, xs, rfl, h.2 0 c x rfl rfl, by have := h.1; simpa using this, fun j c' y hc hy => h.2 (j + 1) c' y (by simpa using hc) (by simpa using hy)⟩
theorem okc_i {k : IntKind} {x : RV} (h : Okc (.i k) x) : ∃ n, x = .n k n ∧ (Lit.int k n).wf = true := by cases h with | i _ n h => exact ⟨n, rfl, h⟩
theorem okc_b {x : RV} (h : Okc .b x) : ∃ n, x = .b n := by cases h with | b n => exact ⟨n, rfl⟩
theorem okc_s {x : RV} (h : Okc .s x) : ∃ l, x = .s l ∧ l.length ≤ maxLen := by cases h with | s l h => exact ⟨l, rfl, h⟩
theorem okc_sl {row : List CT} {x : RV} (h : Okc (.sl row) x) : ∃ L, x = .ro none L ∧ L.length ≤ maxLen ∧ ∀ r ∈ L, RowOk row r := by
  cases h with
  | sl _ L hl hr h =>
    refine ⟨L, rfl, hl, fun r hm => ⟨hr r hm, fun j c x hc hx => ?_⟩⟩
    obtain ⟨i, hi, rfl⟩ := List.getElem_of_mem hm
    exact h i j c x hc (by rw [List.getElem?_eq_getElem hi]; exact hx)
theorem wf_i64 {x : Int} (h : (Lit.int .i64 x).wf = true) : -9223372036854775808 ≤ x ∧ x ≤ 9223372036854775807 := by
  simp only [Lit.wf, Bool.and_eq_true, decide_eq_true_eq] at h
  exact h
theorem wf_u8 {x : Int} (h : (Lit.int .u8 x).wf = true) : 0 ≤ x ∧ x ≤ 255 := by
  simp only [Lit.wf, Bool.and_eq_true, decide_eq_true_eq] at h
  exact h

/-- Rows that are the rows of something. -/
theorem rows_of {α : Type} {row : List CT} {f : α → List RV} {ok : α → Prop} (h : ∀ r, RowOk row r → ∃ a, r = f a ∧ ok a) : ∀ {L : List (List RV)}, (∀ r ∈ L, RowOk row r) → ∃ l : List α, L = l.map f ∧ ∀ a ∈ l, ok a
  | [], _ => ⟨[], rfl, fun a h => by cases h⟩
  | r :: L, hL => by
    obtain ⟨a, rfl, ha⟩ := h r (hL r (by simp))
    obtain ⟨l, rfl, hl⟩ := rows_of h (L := L) (fun r hr => hL r (List.mem_cons_of_mem _ hr))
    exact ⟨a :: l, rfl, fun b hb => by
      rcases List.mem_cons.1 hb with rfl | hb
      · exact ha
      · exact hl b hb⟩
theorem getD_map {α : Type} {f : α → List RV} {l : List α} {i : Nat} (h : i < l.length) : (l.map f).getD i [] = f l[i] := by
  simp [List.getD_eq_getElem?_getD, h]
end Go.Cap

/- The engine, part 30: results in new blocks. -/
namespace Go.Cap
open Go
set_option linter.unusedSimpArgs false
set_option linter.unusedVariables false

/-- What a function leaves may be described by less. -/
theorem Spec.le {P : Program} {f m : Nat} {H : List (Nat × Blk)} {args : List AV} {Q Q' : AV → List (Nat × Blk) → Nat → List Nat → Prop} (h : Spec P f m H args Q)
    (hq : ∀ r hp nx gs, Q r hp nx gs → ∃ r' hp' nx' gs', Q' r' hp' nx' gs' ∧ ∀ c : Cx, c.m = m → Le c ⟨[(0, r)], hp, nx, gs⟩ ⟨[(0, r')], hp', nx', gs'⟩) : Spec P f m H args Q' := by
  intro M ι w X nt hw vs ha
  refine (h M ι w X nt hw vs ha).mono fun e w' he => ?_
  obtain ⟨v, r, hp', nx', gs', M', ι', h1, h2, h3, h4⟩ := he
  obtain ⟨r2, hp2, nx2, gs2, hQ, hl⟩ := hq _ _ _ _ h3
  obtain ⟨M2, ι2, hs⟩ := hl ⟨P, w, X, M, 1, m, ι⟩ rfl M' ι' { tmps := #[v], defers := [] } w' ⟨h4.nt, fun i => by
    show Ar M' ι' (get [(0, r)] i) _
    simp only [get]
    split
    · rename_i e; subst e; exact h2
    · exact .junk _, rfl, rfl⟩
  refine ⟨v, r2, hp2, nx2, gs2, M2, ι2, h1, ?_, hQ, hs.wr.nt⟩
  have := hs.slots 0
  simpa [get] using this

/-- One new block of rows. -/
def New1 (r0 : AV) (sz : Nat) (L : List (List RV)) : AV → List (Nat × Blk) → Nat → List Nat → Prop := fun r hp nx gs => r = r0 ∧ hp = [(0, .row sz L)] ∧ nx = 1 ∧ gs = []
theorem Spec.new1 {P : Program} {f : Nat} {args : List AV} {r0 : AV} {sz : Nat} {L : List (List RV)} {Q : AV → List (Nat × Blk) → Nat → List Nat → Prop} (h : Spec P f 0 [] args Q)
    (hq : ∀ r hp nx gs, Q r hp nx gs → ∃ b, r = renA (fun _ => b) r0 ∧ hget hp b = some (.row sz L)) (hr : ∀ f g : Nat → Nat, f 0 = g 0 → renA f r0 = renA g r0) : Spec P f 0 [] args (New1 r0 sz L) :=
  h.le fun r hp nx gs hQ => by
    obtain ⟨b, rfl, hb⟩ := hq _ _ _ _ hQ
    refine ⟨r0, [(0, .row sz L)], 1, [], ⟨rfl, rfl, rfl, rfl⟩, fun c hc => le_nums [(0, b)] (by simp) (by simp [hc]) ?_ ?_ (by simp) (by simp [hc]) ⟨List.nodup_nil, fun g hg => by cases hg⟩⟩
    · intro p hp'
      simp only [List.mem_singleton] at hp'
      subst hp'
      exact .inr (by simp only [get, if_true]; exact hr _ _ (by simp [nums]))
    · intro p hp'
      simp only [List.mem_singleton] at hp'
      subst hp'
      simpa [nums, renB] using hb

/-- The same with two new blocks. -/
def New2 (r0 : AV) (sz : Nat) (L : List (List RV)) (sz1 : Nat) (L1 : List (List RV)) : AV → List (Nat × Blk) → Nat → List Nat → Prop := fun r hp nx gs => r = r0 ∧ hp = [(0, .row sz L), (1, .row sz1 L1)] ∧ nx = 2 ∧ gs = []
theorem Spec.new2 {P : Program} {f : Nat} {args : List AV} {r0 : AV} {sz sz1 : Nat} {L L1 : List (List RV)} {Q : AV → List (Nat × Blk) → Nat → List Nat → Prop} (h : Spec P f 0 [] args Q)
    (hq : ∀ r hp nx gs, Q r hp nx gs → ∃ b b1, b ≠ b1 ∧ r = renA (fun x => if x = 0 then b else b1) r0 ∧ hget hp b = some (.row sz L) ∧ hget hp b1 = some (.row sz1 L1)) (hr : ∀ f g : Nat → Nat, f 0 = g 0 → f 1 = g 1 → renA f r0 = renA g r0) : Spec P f 0 [] args (New2 r0 sz L sz1 L1) :=
  h.le fun r hp nx gs hQ => by
    obtain ⟨b, b1, hne, rfl, hb, hb1⟩ := hq _ _ _ _ hQ
    refine ⟨r0, [(0, .row sz L), (1, .row sz1 L1)], 2, [], ⟨rfl, rfl, rfl, rfl⟩, fun c hc => le_nums [(0, b), (1, b1)] (by simp) (by simp [hc]) ?_ ?_ (by simp [nums]; exact hne) (by simp [hc]) ⟨List.nodup_nil, fun g hg => by cases hg⟩⟩
    · intro p hp'
      simp only [List.mem_singleton] at hp'
      subst hp'
      exact .inr (by simp only [get, if_true]; exact hr _ _ (by simp [nums]) (by simp [nums]))
    · intro p hp'
      simp only [List.mem_cons, List.mem_singleton, List.not_mem_nil, or_false] at hp'
      rcases hp' with rfl | rfl
      · simpa [nums, renB] using hb
      · simpa [nums, renB] using hb1

/-- All cells are plain. -/
def closL2 (L : List (List RV)) : Prop := ∀ r ∈ L, ∀ x ∈ r, closR x = true
theorem closL2_map {α : Type} {f : α → List RV} (h : ∀ a, ∀ x ∈ f a, closR x = true) (l : List α) : closL2 (l.map f) := fun r hr => by
  obtain ⟨a, _, rfl⟩ := List.mem_map.1 hr
  exact h a
theorem call_new1 {c : Cx} {s : St} {f : Nat} {as0 args : List AV} {r0 : AV} {sz : Nat} {L : List (List RV)} {K : AV → St → Prop} (hs : Spec c.P f 0 [] as0 (New1 r0 sz L)) (hc : closA r0 = true) (hL : closL2 L) (ha : Vws s.hp args as0)
    (hK : K (renA (s.nx + ·) r0) ⟨s.sl, (s.nx, .row sz L) :: s.hp, s.nx + 1, s.gs⟩) : Call c f args s K :=
  call_cl hs ha.spec fun r hp nx gs hQ => by
    obtain ⟨rfl, rfl, rfl, rfl⟩ := hQ
    exact ⟨⟨hc, fun p hp => by simp only [List.mem_singleton] at hp; subst hp; exact hL⟩, hK⟩
theorem call_new2 {c : Cx} {s : St} {f : Nat} {as0 args : List AV} {r0 : AV} {sz sz1 : Nat} {L L1 : List (List RV)} {K : AV → St → Prop} (hs : Spec c.P f 0 [] as0 (New2 r0 sz L sz1 L1)) (hc : closA r0 = true) (hL : closL2 L) (hL1 : closL2 L1) (ha : Vws s.hp args as0)
    (hK : K (renA (s.nx + ·) r0) ⟨s.sl, (s.nx, .row sz L) :: (s.nx + 1, .row sz1 L1) :: s.hp, s.nx + 2, s.gs⟩) : Call c f args s K :=
  call_cl hs ha.spec fun r hp nx gs hQ => by
    obtain ⟨rfl, rfl, rfl, rfl⟩ := hQ
    refine ⟨⟨hc, fun p hp => ?_⟩, hK⟩
    simp only [List.mem_cons, List.mem_singleton, List.not_mem_nil, or_false] at hp
    rcases hp with rfl | rfl
    · exact hL
    · exact hL1

/-- Rows that are filled one after the other. -/
theorem fill_set {M : List (List RV)} {z : List RV} {i : Nat} (h : i < M.length) : (M.take i ++ List.replicate (M.length - i) z).set i M[i] = M.take (i + 1) ++ List.replicate (M.length - (i + 1)) z := by
  rw [List.set_append_right _ _ (by simp; omega)]
  have e1 : i - (M.take i).length = 0 := by simp; omega
  have e2 : M.length - i = (M.length - (i + 1)) + 1 := by omega
  rw [e1, e2, List.replicate_succ, List.set_cons_zero, List.take_add_one, List.getElem?_eq_getElem h, List.append_assoc]
  rfl
end Go.Cap

/- The engine, part 31: states that stand for less, checked by evaluation. -/
namespace Go.Cap
open Go
set_option linter.unusedSimpArgs false
set_option linter.unusedVariables false

def slOk (f : Nat → Nat) (sl : List (Nat × AV)) : List (Nat × AV) → Prop
  | [] => True
  | (i, v) :: l => get sl i = renA f v ∧ slOk f sl l
def hpOk (f : Nat → Nat) (hp : List (Nat × Blk)) : List (Nat × Blk) → Prop
  | [] => True
  | (i, v) :: l => hget hp (f i) = some (renB f v) ∧ hpOk f hp l
def ltOk (m n : Nat) : List (Nat × Nat) → Prop
  | [] => True
  | (i, _) :: l => (i < n ∧ m ≤ i) ∧ ltOk m n l
def ndOk (f : Nat → Nat) : List (Nat × Blk) → List Nat → Prop
  | [], _ => True
  | (i, _) :: l, seen => f i ∉ seen ∧ ndOk f l (f i :: seen)
@[go_sem] theorem slOk_nil (f : Nat → Nat) (sl : List (Nat × AV)) : slOk f sl [] = True := (rfl)
@[go_sem] theorem slOk_cons (f : Nat → Nat) (sl l : List (Nat × AV)) (i : Nat) (v : AV) : slOk f sl ((i, v) :: l) = (get sl i = renA f v ∧ slOk f sl l) := (rfl)
@[go_sem] theorem hpOk_nil (f : Nat → Nat) (hp : List (Nat × Blk)) : hpOk f hp [] = True := (rfl)
@[go_sem] theorem hpOk_cons (f : Nat → Nat) (hp l : List (Nat × Blk)) (i : Nat) (v : Blk) : hpOk f hp ((i, v) :: l) = (hget hp (f i) = some (renB f v) ∧ hpOk f hp l) := (rfl)
@[go_sem] theorem ltOk_nil (m n : Nat) : ltOk m n [] = True := (rfl)
@[go_sem] theorem ltOk_cons (m n i j : Nat) (l : List (Nat × Nat)) : ltOk m n ((i, j) :: l) = ((i < n ∧ m ≤ i) ∧ ltOk m n l) := (rfl)
@[go_sem] theorem ndOk_nil (f : Nat → Nat) (s : List Nat) : ndOk f [] s = True := (rfl)
@[go_sem] theorem ndOk_cons (f : Nat → Nat) (i : Nat) (v : Blk) (l : List (Nat × Blk)) (s : List Nat) : ndOk f ((i, v) :: l) s = (f i ∉ s ∧ ndOk f l (f i :: s)) := (rfl)

theorem slOk_spec {f : Nat → Nat} {sl : List (Nat × AV)} : ∀ {l : List (Nat × AV)}, slOk f sl l → ∀ p ∈ l, p.2 = .junk ∨ get sl p.1 = renA f p.2
  | [], _, p, h => by cases h
  | (i, v) :: l, h, p, hp => by
    rcases List.mem_cons.1 hp with rfl | hp
    · exact .inr h.1
    · exact slOk_spec h.2 p hp
theorem hpOk_spec {f : Nat → Nat} {hp : List (Nat × Blk)} : ∀ {l : List (Nat × Blk)}, hpOk f hp l → ∀ p ∈ l, hget hp (f p.1) = some (renB f p.2)
  | [], _, p, h => by cases h
  | (i, v) :: l, h, p, hp => by
    rcases List.mem_cons.1 hp with rfl | hp
    · exact h.1
    · exact hpOk_spec h.2 p hp
theorem ltOk_spec {m n : Nat} : ∀ {l : List (Nat × Nat)}, ltOk m n l → ∀ p ∈ l, p.1 < n ∧ m ≤ p.1
  | [], _, p, h => by cases h
  | (i, v) :: l, h, p, hp => by
    rcases List.mem_cons.1 hp with rfl | hp
    · exact h.1
    · exact ltOk_spec h.2 p hp
theorem ndOk_spec {f : Nat → Nat} : ∀ {l : List (Nat × Blk)} {s : List Nat}, ndOk f l s → (l.map fun p => f p.1).Nodup ∧ ∀ p ∈ l, f p.1 ∉ s
  | [], _, _ => ⟨List.nodup_nil, fun p h => by cases h⟩
  | (i, v) :: l, s, h => by
    obtain ⟨h1, h2⟩ := ndOk_spec h.2
    refine ⟨List.nodup_cons.2 ⟨fun hm => ?_, h1⟩, fun p hp => ?_⟩
    · obtain ⟨q, hq, e⟩ := List.mem_map.1 hm
      exact h2 q hq (by rw [e]; simp)
    · rcases List.mem_cons.1 hp with rfl | hp
      · exact h.1
      · exact fun hm => h2 p hp (List.mem_cons_of_mem _ hm)

/-- 'l': which blocks of the left stand for those of the right; blocks that are not named keep their numbers. -/
theorem le_ev {c : Cx} {sl sl' : List (Nat × AV)} {hp hp' : List (Nat × Blk)} {nx nx' : Nat} {gs : List Nat} (l : List (Nat × Nat))
    (h : ((slOk (nums l nx' nx) sl sl' ∧ hpOk (nums l nx' nx) hp hp') ∧ ndOk (nums l nx' nx) hp' []) ∧ ltOk c.m nx' l ∧ c.m ≤ nx') : Le c ⟨sl, hp, nx, gs⟩ ⟨sl', hp', nx', []⟩ :=
  le_nums l (fun p hp => (ltOk_spec h.2.1 p hp).1) (fun p hp => (ltOk_spec h.2.1 p hp).2) (slOk_spec h.1.1.1) (hpOk_spec h.1.1.2) (ndOk_spec h.1.2).1 h.2.2 ⟨List.nodup_nil, fun g hg => by cases hg⟩
end Go.Cap

/- The engine, part 32: a callee that changes one block of its caller. -/
namespace Go.Cap
open Go
set_option linter.unusedSimpArgs false
set_option linter.unusedVariables false

/-- What a function leaves of one named block, with a flat result. -/
def Named (Q : AV → Blk → Prop) : AV → List (Nat × Blk) → Nat → List Nat → Prop := fun r hp nx gs => ∃ B, Q r B ∧ hp = [(0, B)] ∧ nx = 1 ∧ gs = []
theorem renL_id {f : Nat → Nat} : ∀ {l : List AV}, plainA.plainL l = true → renA.renL f l = l
  | [], _ => rfl
  | .r x :: l, h => by simp only [plainA.plainL, Bool.and_eq_true] at h; simp only [renA.renL, renA, renL_id h.2]
  | .agg cs :: l, h => by
    simp only [plainA.plainL, plainA, Bool.and_eq_true] at h
    simp only [renA.renL, renA, renL_id h.1, renL_id h.2]
  | .junk :: l, h => by simp only [plainA.plainL, Bool.and_eq_true] at h; simp only [renA.renL, renA, renL_id h.2]
  | .ptr .. :: _, h => by simp [plainA.plainL, plainA] at h
  | .sl .. :: _, h => by simp [plainA.plainL, plainA] at h
  | .rp .. :: _, h => by simp [plainA.plainL, plainA] at h
  | .tup .. :: _, h => by simp [plainA.plainL, plainA] at h
  | .fn .. :: _, h => by simp [plainA.plainL, plainA] at h
def plainBlk : Blk → Bool
  | .var cs => plainA.plainL cs
  | .row .. => true
theorem renB_id {f : Nat → Nat} {B : Blk} (h : plainBlk B = true) : renB f B = B := by
  cases B with
  | var cs => simp only [renB, renL_id h]
  | row sz L => rfl
mutual
theorem ren_flat {f : Nat → Nat} : ∀ (x : AV), flatA x = true → renA f x = x
  | .r x, _ => rfl
  | .agg cs, h => by simp only [renA, renL_flat cs h]
  | .tup cs, h => by simp only [renA, renL_flat cs h]
  | .junk, _ => rfl
  | .ptr .., h => by cases h
  | .sl .., h => by cases h
  | .rp .., h => by cases h
  | .fn .., h => by cases h
theorem renL_flat {f : Nat → Nat} : ∀ (l : List AV), flatA.flatL l = true → renA.renL f l = l
  | [], _ => rfl
  | x :: l, h => by
    simp only [flatA.flatL, Bool.and_eq_true] at h
    simp only [renA.renL, ren_flat x h.1, renL_flat l h.2]
end
theorem call_named {c : Cx} {s : St} {f : Nat} {B : Blk} {as0 args : List AV} {Q : AV → Blk → Prop} {K : AV → St → Prop} (b : Nat) (hs : Spec c.P f 1 [(0, B)] as0 (Named Q)) (hb : hget s.hp b = some B) (hB : plainBlk B = true)
    (ha : args = as0.map (renA (idf [b] s.nx))) (hQ : ∀ r B', Q r B' → flatA r = true ∧ plainBlk B' = true) (hK : ∀ r B', Q r B' → K r ⟨s.sl, (b, B') :: hdel s.hp b, s.nx, s.gs⟩) : Call c f args s K := by
  refine call_spec [b] hs (by simp) ?_ ?_ ha fun r hp' nx' gs' h => ?_
  · intro p hp
    simp only [List.mem_singleton] at hp
    subst hp
    exact ⟨by simp, by rw [renB_id hB]; exact hb⟩
  · intro j hj
    have : j = 0 := by simp at hj; exact hj
    subst this
    exact ⟨B, by simp⟩
  · obtain ⟨B', hq, rfl, rfl, rfl⟩ := h
    obtain ⟨h1, h2⟩ := hQ r B' hq
    have := hK r B' hq
    simpa [ren_flat r h1, renB_id h2, renH, idf, hdels] using this
/-- From a contract that speaks of the named block alone. -/
theorem Spec.named {P : Program} {f : Nat} {B : Blk} {args : List AV} {Q : AV → Blk → Prop} (h : Spec P f 1 [(0, B)] args (fun r hp nx gs => ∃ B', hget hp 0 = some B' ∧ plainBlk B' = true ∧ flatA r = true ∧ 1 ≤ nx ∧ Q r B')) : Spec P f 1 [(0, B)] args (Named Q) :=
  h.le fun r hp nx gs hQ => by
    obtain ⟨B', h1, h2, h3, h4, h5⟩ := hQ
    refine ⟨r, [(0, B')], 1, [], ⟨B', h5, rfl, rfl, rfl⟩, fun c hc => le_nums [] (by simp) (by simp) ?_ ?_ (by simp) (by simp [hc]) ⟨List.nodup_nil, fun g hg => by cases hg⟩⟩
    · intro p hp'
      simp only [List.mem_singleton] at hp'
      subst hp'
      exact .inr (by simp only [get, if_true]; rw [ren_flat r h3])
    · intro p hp'
      simp only [List.mem_singleton] at hp'
      subst hp'
      simpa [nums, renB_id h2] using h1

/-- Two named blocks. -/
def Named2 (Q : AV → Blk → Blk → Prop) : AV → List (Nat × Blk) → Nat → List Nat → Prop := fun r hp nx gs => ∃ B B1, Q r B B1 ∧ hp = [(0, B), (1, B1)] ∧ nx = 2 ∧ gs = []
theorem call_named2 {c : Cx} {s : St} {f : Nat} {B B1 : Blk} {as0 args : List AV} {Q : AV → Blk → Blk → Prop} {K : AV → St → Prop} (b b1 : Nat) (hs : Spec c.P f 2 [(0, B), (1, B1)] as0 (Named2 Q)) (hne : b ≠ b1) (hb : hget s.hp b = some B) (hb1 : hget s.hp b1 = some B1)
    (hB : plainBlk B = true) (hB1 : plainBlk B1 = true) (ha : args = as0.map (renA (idf [b, b1] s.nx))) (hQ : ∀ r B' B1', Q r B' B1' → flatA r = true ∧ plainBlk B' = true ∧ plainBlk B1' = true)
    (hK : ∀ r B' B1', Q r B' B1' → K r ⟨s.sl, (b, B') :: (b1, B1') :: hdel (hdel s.hp b) b1, s.nx, s.gs⟩) : Call c f args s K := by
  refine call_spec [b, b1] hs (by simpa using hne) ?_ ?_ ha fun r hp' nx' gs' h => ?_
  · intro p hp
    simp only [List.mem_cons, List.mem_singleton, List.not_mem_nil, or_false] at hp
    rcases hp with rfl | rfl
    · exact ⟨by simp, by rw [renB_id hB]; exact hb⟩
    · exact ⟨by simp, by rw [renB_id hB1]; exact hb1⟩
  · intro j hj
    have : j = 0 ∨ j = 1 := by simp at hj; omega
    rcases this with rfl | rfl
    · exact ⟨B, by simp⟩
    · exact ⟨B1, by simp⟩
  · obtain ⟨B', B1', hq, rfl, rfl, rfl⟩ := h
    obtain ⟨h1, h2, h3⟩ := hQ r B' B1' hq
    have := hK r B' B1' hq
    simpa [ren_flat r h1, renB_id h2, renB_id h3, renH, idf, hdels] using this
theorem Spec.named2 {P : Program} {f : Nat} {B B1 : Blk} {args : List AV} {Q : AV → Blk → Blk → Prop} (h : Spec P f 2 [(0, B), (1, B1)] args (fun r hp nx gs => ∃ B' B1', hget hp 0 = some B' ∧ hget hp 1 = some B1' ∧ plainBlk B' = true ∧ plainBlk B1' = true ∧ flatA r = true ∧ 2 ≤ nx ∧ Q r B' B1')) :
    Spec P f 2 [(0, B), (1, B1)] args (Named2 Q) :=
  h.le fun r hp nx gs hQ => by
    obtain ⟨B', B1', h0, h1, h2, h3, h4, h5, h6⟩ := hQ
    refine ⟨r, [(0, B'), (1, B1')], 2, [], ⟨B', B1', h6, rfl, rfl, rfl⟩, fun c hc => le_nums [] (by simp) (by simp) ?_ ?_ (by simp [nums]) (by simp [hc]) ⟨List.nodup_nil, fun g hg => by cases hg⟩⟩
    · intro p hp'
      simp only [List.mem_singleton] at hp'
      subst hp'
      exact .inr (by simp only [get, if_true]; rw [ren_flat r h4])
    · intro p hp'
      simp only [List.mem_cons, List.mem_singleton, List.not_mem_nil, or_false] at hp'
      rcases hp' with rfl | rfl
      · simpa [nums, renB_id h2] using h0
      · simpa [nums, renB_id h3] using h1

/-- One named block, and one new block of rows. -/
def NamedNew (Q : AV → Blk → Nat → List (List RV) → Prop) : AV → List (Nat × Blk) → Nat → List Nat → Prop := fun r hp nx gs => ∃ B sz L, Q r B sz L ∧ hp = [(0, B), (1, .row sz L)] ∧ nx = 2 ∧ gs = []
theorem call_namedNew {c : Cx} {s : St} {f : Nat} {B : Blk} {as0 args : List AV} {Q : AV → Blk → Nat → List (List RV) → Prop} {K : AV → St → Prop} (b : Nat) (hs : Spec c.P f 1 [(0, B)] as0 (NamedNew Q)) (hb : hget s.hp b = some B) (hB : plainBlk B = true)
    (ha : args = as0.map (renA (idf [b] s.nx))) (hQ : ∀ r B' sz L, Q r B' sz L → plainBlk B' = true) (hK : ∀ r B' sz L, Q r B' sz L → K (renA (idf [b] s.nx) r) ⟨s.sl, (b, B') :: (s.nx, .row sz L) :: hdel s.hp b, s.nx + 1, s.gs⟩) : Call c f args s K := by
  refine call_spec [b] hs (by simp) ?_ ?_ ha fun r hp' nx' gs' h => ?_
  · intro p hp
    simp only [List.mem_singleton] at hp
    subst hp
    exact ⟨by simp, by rw [renB_id hB]; exact hb⟩
  · intro j hj
    have : j = 0 := by simp at hj; exact hj
    subst this
    exact ⟨B, by simp⟩
  · obtain ⟨B', sz, L, hq, rfl, rfl, rfl⟩ := h
    have h2 := hQ r B' sz L hq
    have := hK r B' sz L hq
    simp only [renH, List.map_cons, List.map_nil, renB_id h2, renB_row, idf_zero, idf_succ, idf_nil, hdels_cons, hdels_nil, List.nil_append, List.cons_append, List.length_cons, List.length_nil, Nat.add_zero]
    simpa using this
theorem Spec.namedNew {P : Program} {f : Nat} {B : Blk} {args : List AV} {Q : AV → Blk → Nat → List (List RV) → Prop}
    (h : Spec P f 1 [(0, B)] args (fun r hp nx gs => ∃ B' sz L b r0, hget hp 0 = some B' ∧ plainBlk B' = true ∧ b ≠ 0 ∧ hget hp b = some (.row sz L) ∧ (r = renA (fun x => if x = 1 then b else x) r0 ∧ ∀ f g : Nat → Nat, f 1 = g 1 → renA f r0 = renA g r0) ∧ Q r0 B' sz L)) :
    Spec P f 1 [(0, B)] args (NamedNew Q) :=
  h.le fun r hp nx gs hQ => by
    obtain ⟨B', sz, L, b, r0, h0, h1, h2, h3, ⟨rfl, h4⟩, h5⟩ := hQ
    refine ⟨r0, [(0, B'), (1, .row sz L)], 2, [], ⟨B', sz, L, h5, rfl, rfl, rfl⟩, fun c hc => le_nums [(1, b)] (by simp) (by simp [hc]) ?_ ?_ (by simp [nums]; exact fun e => h2 e.symm) (by simp [hc]) ⟨List.nodup_nil, fun g hg => by cases hg⟩⟩
    · intro p hp'
      simp only [List.mem_singleton] at hp'
      subst hp'
      exact .inr (by simp only [get, if_true]; exact h4 _ _ (by simp [nums]))
    · intro p hp'
      simp only [List.mem_cons, List.mem_singleton, List.not_mem_nil, or_false] at hp'
      rcases hp' with rfl | rfl
      · simpa [nums, renB_id h1] using h0
      · simpa [nums, renB] using h3

/-- The rows behind a number of them are forgotten. -/
theorem le_prefix {c : Cx} {sl : List (Nat × AV)} {hp : List (Nat × Blk)} {nx : Nat} {gs : List Nat} (b n : Nat) {sz : Nat} {L : List (List RV)} (hb : hget hp b = some (.row sz L)) (hn : n ≤ L.length) : Le c ⟨sl, hp, nx, gs⟩ ⟨sl, hset hp b (.row sz (L.take n)), nx, gs⟩ := by
  intro M ι a w h
  have hne : ∀ i, hget (hset hp b (.row sz (L.take n))) i ≠ none → hget hp i ≠ none := fun i hi => by
    rw [hget_hset] at hi
    split at hi
    · rename_i e; subst e; rw [hb]; simp
    · exact hi
  refine ⟨M, ι, ⟨⟨h.wr.msub, h.wr.m0, h.wr.mnew, fun i x hi => ?_, fun i j bi bj g h1 h2 => h.wr.inj i j bi bj g (hne i h1) (hne j h2), fun i bi g h1 => h.wr.own i bi g (hne i h1), h.wr.kept, h.wr.fresh, h.wr.mle, h.wr.anc, h.wr.gsn, h.wr.gsm⟩, h.slots, h.nt, h.df⟩⟩
  have hi' : hget (hset hp b (.row sz (L.take n))) i = some x := hi
  rw [hget_hset] at hi'
  split at hi'
  · rename_i e
    subst e
    cases hi'
    obtain ⟨bi, k1, k2⟩ := h.wr.heap _ _ hb
    refine ⟨bi, k1, ?_⟩
    unfold Br at k2 ⊢
    cases hg : bi.g with
    | none =>
      simp only [hg] at k2 ⊢
      obtain ⟨sz', e⟩ := k2
      injection e with _ e
      exact ⟨sz, by rw [e]; simp⟩
    | some g =>
      simp only [hg] at k2 ⊢
      obtain ⟨q0, arr, e, q1, q2, q3, q4, q5, q6, q7⟩ := k2
      refine ⟨q0, arr, e, q1, q2, q3, q4, by simp; omega, fun r hr => q6 r (List.mem_of_mem_take hr), fun i j x v hx hv => q7 i j x v ?_ hv⟩
      rw [List.getElem?_take] at hx
      split at hx
      · exact hx
      · cases hx
  · exact h.wr.heap i x hi'

/-- A pointer to one new variable. -/
def NewV (B : Blk) : AV → List (Nat × Blk) → Nat → List Nat → Prop := fun r hp nx gs => r = .ptr 0 0 0 ∧ hp = [(0, B)] ∧ nx = 1 ∧ gs = []
theorem call_newV {c : Cx} {s : St} {f : Nat} {args : List AV} {B : Blk} {K : AV → St → Prop} (hs : Spec c.P f 0 [] args (NewV B)) (ha : plainA.plainL args = true) (hB : plainBlk B = true)
    (hK : K (.ptr s.nx 0 0) ⟨s.sl, (s.nx, B) :: s.hp, s.nx + 1, s.gs⟩) : Call c f args s K := by
  refine call_spec [] hs (by simp) (fun p hp => by cases hp) (fun j hj => by simp at hj) ?_ fun r hp' nx' gs' h => ?_
  · have : ∀ (f : Nat → Nat) (l : List AV), plainA.plainL l = true → l.map (renA f) = l := fun f l hl => by rw [← renL_eq, renL_id hl]
    exact (this _ _ ha).symm
  · obtain ⟨rfl, rfl, rfl, rfl⟩ := h
    simpa [renA, renH, renB_id hB, idf, hdels] using hK

theorem Vw.pre {hp : List (Nat × Blk)} {b n sz : Nat} {L M : List (List RV)} (h : hget hp b = some (.row sz L)) (hn : n ≤ L.length) (hM : L.take n = M) : Vw hp (.sl b 0 n) (.r (.ro none M)) := by
  have := Vw.sl b 0 n sz L h (by omega)
  simpa [hM] using this

theorem bitXor_nn {a b : Int} (ha : 0 ≤ a ∧ a < 4611686018427387904) (hb : 0 ≤ b ∧ b < 4611686018427387904) : 0 ≤ bitXor .i64 a b ∧ bitXor .i64 a b < 4611686018427387904 := by
  obtain ⟨m, rfl⟩ := Int.eq_ofNat_of_zero_le ha.1
  obtain ⟨n, rfl⟩ := Int.eq_ofNat_of_zero_le hb.1
  have hm : m < 2 ^ 62 := by omega
  have hn : n < 2 ^ 62 := by omega
  have hx := Nat.xor_lt_two_pow hm hn
  unfold bitXor
  have e : (BitVec.ofInt IntKind.i64.bits (m : Int) ^^^ BitVec.ofInt IntKind.i64.bits (n : Int)).toNat = m ^^^ n := by
    have hb : IntKind.i64.bits = 64 := rfl
    rw [hb]
    simp only [BitVec.toNat_xor, BitVec.toNat_ofInt]
    have h1 : ((m : Int) % ((2 ^ 64 : Nat) : Int)).toNat = m := by omega
    have h2 : ((n : Int) % ((2 ^ 64 : Nat) : Int)).toNat = n := by omega
    rw [h1, h2]
  rw [e, wrap64 (by omega) (by omega)]
  omega
end Go.Cap

/- The engine, part 33: calls with plain arguments whose result is one new block of rows that may hold references. -/
namespace Go.Cap
open Go
set_option linter.unusedSimpArgs false
set_option linter.unusedVariables false

theorem call_new1p {c : Cx} {s : St} {f : Nat} {args : List AV} {r0 : AV} {sz : Nat} {L : List (List RV)} {K : AV → St → Prop} (hs : Spec c.P f 0 [] args (New1 r0 sz L)) (ha : plainA.plainL args = true)
    (hK : K (renA (s.nx + ·) r0) ⟨s.sl, (s.nx, .row sz L) :: s.hp, s.nx + 1, s.gs⟩) : Call c f args s K := by
  refine call_spec [] hs (by simp) (fun p hp => by cases hp) (fun j hj => by simp at hj) ?_ fun r hp' nx' gs' h => ?_
  · have : ∀ (f : Nat → Nat) (l : List AV), plainA.plainL l = true → l.map (renA f) = l := fun f l hl => by rw [← renL_eq, renL_id hl]
    exact (this _ _ ha).symm
  · obtain ⟨rfl, rfl, rfl, rfl⟩ := h
    have e : idf [] s.nx = (s.nx + ·) := by funext i; simp [idf]
    simpa [renA, renH, renB, e, hdels] using hK
end Go.Cap

/- The engine, part 34: equations for the comparison of structs. -/
namespace Go.Cap
open Go
set_option linter.unusedSimpArgs false
set_option linter.unusedVariables false

def eqAL : List RV → List AV → List AV → Option Bool
  | [], [], [] => some true
  | z :: zs, .r x :: xs, .r y :: ys => match eqCell z x y, eqAL zs xs ys with
    | some a, some b => some (a && b)
    | _, _ => none
  | _, _, _ => none
def eqG (neg : Bool) : Option Bool → QR
  | some b => .val (.r (.b (neg ^^ b)))
  | none => .bad
@[go_sem] theorem eqG_some (neg b : Bool) : eqG neg (some b) = .val (.r (.b (neg ^^ b))) := (rfl)
def andO (a : Bool) : Option Bool → Option Bool
  | some b => some (a && b)
  | none => none
@[go_sem] theorem andO_some (a b : Bool) : andO a (some b) = some (a && b) := (rfl)
@[go_sem] theorem eqAL_nil : eqAL [] [] [] = some true := (rfl)
@[go_sem] theorem eqAL_n (k : IntKind) (z a b : Int) (zs : List RV) (xs ys : List AV) : eqAL (.n k z :: zs) (.r (.n k a) :: xs) (.r (.n k b) :: ys) = andO (a == b) (eqAL zs xs ys) := by
  simp only [eqAL, eqCell, and_self, if_true]
  cases eqAL zs xs ys <;> rfl
@[go_sem] theorem eqAL_b (z a b : Bool) (zs : List RV) (xs ys : List AV) : eqAL (.b z :: zs) (.r (.b a) :: xs) (.r (.b b) :: ys) = andO (a == b) (eqAL zs xs ys) := by
  simp only [eqAL, eqCell]
  cases eqAL zs xs ys <;> rfl
@[go_sem] theorem eqAL_s (z a b : List UInt8) (zs : List RV) (xs ys : List AV) : eqAL (.s z :: zs) (.r (.s a) :: xs) (.r (.s b) :: ys) = andO (a == b) (eqAL zs xs ys) := by
  simp only [eqAL, eqCell]
  cases eqAL zs xs ys <;> rfl
theorem eqAL_eq : ∀ (ks : List RV) (xs ys : List RV), eqAL ks (xs.map .r) (ys.map .r) = eqCells ks xs ys
  | [], [], [] => rfl
  | [], [], _ :: _ => rfl
  | [], _ :: _, _ => rfl
  | _ :: _, [], _ => rfl
  | _ :: _, _ :: _, [] => rfl
  | k :: ks, x :: xs, y :: ys => by
    simp only [List.map_cons, eqAL, eqCells, eqAL_eq ks xs ys]
    cases eqCell k x y <;> cases eqCells ks xs ys <;> rfl
theorem rvs_none : ∀ {xs : List AV}, rvs xs = none → ∀ ks ys, eqAL ks xs ys = none ∧ eqAL ks ys xs = none := by
  intro xs
  induction xs with
  | nil => intro h; cases h
  | cons x xs ih =>
    intro h ks ys
    cases ks with
    | nil => cases ys <;> exact ⟨rfl, rfl⟩
    | cons k ks =>
      cases ys with
      | nil => exact ⟨by cases x <;> rfl, rfl⟩
      | cons y ys =>
        cases x with
        | r x =>
          rw [rvs_cons] at h
          have h' : rvs xs = none := by cases e : rvs xs <;> simp [e] at h ⊢
          obtain ⟨h1, h2⟩ := ih h' ks ys
          cases y with
          | r y =>
            simp only [eqAL, h1, h2]
            exact ⟨by cases eqCell k x y <;> rfl, by cases eqCell k y x <;> rfl⟩
          | _ => exact ⟨rfl, rfl⟩
        | _ => exact ⟨rfl, by cases y <;> rfl⟩
@[go_sem] theorem eqAgg_eq (ks : List RV) (neg : Bool) (xs ys : List AV) : eqAgg ks neg (.agg xs) (.agg ys) = eqG neg (eqAL ks xs ys) := by
  have key : ∀ (o1 o2 : Option (List RV)), o1 = rvs xs → o2 = rvs ys → (match o1, o2 with
      | some xs, some ys => match eqCells ks xs ys with
        | some b => QR.val (.r (.b (neg ^^ b)))
        | none => .bad
      | _, _ => .bad) = eqG neg (eqAL ks xs ys) := by
    intro o1 o2 h1 h2
    cases o1 with
    | none => rw [(rvs_none h1.symm ks ys).1]; rfl
    | some a =>
      cases o2 with
      | none => rw [(rvs_none h2.symm ks xs).2]; rfl
      | some b =>
        rw [rvs_spec h1.symm, rvs_spec h2.symm, eqAL_eq]
        show (match eqCells ks a b with
          | some b => QR.val (.r (.b (neg ^^ b)))
          | none => .bad) = _
        cases eqCells ks a b <;> rfl
  exact key _ _ rfl rfl
/-- A result that needs no memory (a nil slice, say), to a callee that reads views. -/
theorem call_val {c : Cx} {s : St} {f : Nat} {as0 args : List AV} {v : AV} {K : AV → St → Prop} (hs : Spec c.P f 0 [] as0 (fun r _ _ _ => r = v)) (hc : closA v = true) (hr : ∀ g : Nat → Nat, renA g v = v) (ha : Vws s.hp args as0) (hK : K v s) : Call c f args s K := by
  have h2 : Spec c.P f 0 [] as0 (fun r hp nx gs => r = v ∧ hp = [] ∧ nx = 0 ∧ gs = []) := hs.le fun r hp nx gs hQ => by
    subst hQ
    refine ⟨r, [], 0, [], ⟨rfl, rfl, rfl, rfl⟩, fun c hc => le_nums [] (by simp) (by simp) ?_ ?_ (by simp) (by simp [hc]) ⟨List.nodup_nil, fun g hg => by cases hg⟩⟩
    · intro p hp'
      simp only [List.mem_singleton] at hp'
      subst hp'
      exact .inr (by simp only [get, if_true]; rw [hr])
    · intro p hp'; cases hp'
  refine call_cl h2 ha.spec fun r hp nx gs hQ => ?_
  obtain ⟨rfl, rfl, rfl, rfl⟩ := hQ
  exact ⟨⟨hc, fun p hp => by cases hp⟩, by rw [hr]; exact hK⟩
end Go.Cap

/- The engine, part 35: the rules that evaluation uses, in one place; the form of a function's rules. -/
namespace Go.Cap
open Go
set_option linter.unusedVariables false
set_option linter.unusedSimpArgs false
attribute [go_sem] Int.le_refl Int.lt_irrefl Int.cast_ofNat_Int Int.natCast_zero Int.natCast_one not_true_eq_false not_false_eq_true List.not_mem_nil List.mem_cons or_false List.map Bool.not_true Bool.not_false Bool.and_self Bool.true_and Bool.and_true Bool.false_and Bool.and_false forall_const true_imp_iff imp_true_iff implies_true false_imp_iff and_true true_and false_and and_false POp.dst Nat.zero_add Nat.add_zero Nat.mul_one Nat.zero_mul Nat.zero_le Nat.le_refl List.length_cons List.length_nil List.length_map List.length_append List.nil_append List.cons_append List.append_nil List.take_zero List.drop_zero List.take_succ_cons List.drop_succ_cons List.take_nil List.drop_nil List.set_cons_zero List.set_cons_succ List.replicate List.getD_cons_zero List.getD_cons_succ Int.toNat_zero Nat.not_lt_zero Option.map csub asub decide_eq_true_eq decide_eq_false_iff_not bne_iff_ne beq_iff_eq ne_eq Bool.not_eq_true' bne_eq_false_iff_eq beq_eq_false_iff_ne Bool.not_eq_false' ge_iff_le gt_iff_lt Int.not_le Int.not_lt Bool.xor_false Bool.false_xor Bool.true_xor Bool.xor_true beq_self_eq_true bne_self_eq_false Bool.true_bne Bool.false_bne Bool.bne_true Bool.bne_false
attribute [go_sem] Int.reduceNeg Int.reduceEq Int.reduceLE Int.reduceLT Int.reduceToNat Nat.reduceEqDiff reduceCtorEq Nat.reduceAdd Nat.reduceLT Nat.reduceLeDiff Nat.reduceMul Nat.reduceSub
/-- What there is to show of a function whose program is 'p'. -/
def MrT (P : Program) (k : Nat) (p : PC) (rs : List RO) (n : Nat) : Prop := ∀ {m : Nat} {H : List (Nat × Blk)} {args : List AV} {Q : AV → List (Nat × Blk) → Nat → List Nat → Prop}, Nat.ble args.length n = true → (∀ c : Cx, c.P = P → c.m = m → Run c p ⟨zipS 0 args, H, m, []⟩ (Ret rs Q) (fun _ _ => False) (Ret rs Q)) → Spec P k m H args Q
def MkT (P : Program) (k : Nat) (p : PC) (rs : List RO) (n : Nat) : Prop := ∀ {m : Nat} {H : List (Nat × Blk)} {args : List AV} {Q : AV → List (Nat × Blk) → Nat → List Nat → Prop}, Nat.ble args.length n = true → (∀ c : Cx, c.P = P → c.m = m → wpc c p ⟨zipS 0 args, H, m, []⟩ (Ret rs Q) (fun _ _ => False) (Ret rs Q)) → Spec P k m H args Q
def MwT (P : Program) (k : Nat) (p : PC) (rs : List RO) (n : Nat) : Prop := ∀ {m : Nat} {H : List (Nat × Blk)} {args : List AV} {Q : AV → List (Nat × Blk) → Nat → List Nat → Prop}, Nat.ble args.length n = true → (∀ c : Cx, c.P = P → c.m = m → wpc c p ⟨zipS 0 args, H, m, []⟩ (wk c (Ret rs Q)) (fun _ _ => False) (wk c (Ret rs Q))) → Spec P k m H args Q
theorem MrT.k {P : Program} {k : Nat} {p : PC} {rs : List RO} {n : Nat} (h : MrT P k p rs n) : MkT P k p rs n := fun hn hk => h hn fun c h1 h2 => run_wpc _ _ _ _ _ (hk c h1 h2)
theorem MrT.w {P : Program} {k : Nat} {p : PC} {rs : List RO} {n : Nat} (h : MrT P k p rs n) : MwT P k p rs n := fun hn hk => h hn fun c h1 h2 => run_wk (run_wpc _ _ _ _ _ (hk c h1 h2))
end Go.Cap

/- The engine, part 36: results in three new blocks. -/
namespace Go.Cap
open Go
set_option linter.unusedSimpArgs false
set_option linter.unusedVariables false

def New3 (r0 : AV) (sz : Nat) (L : List (List RV)) (sz1 : Nat) (L1 : List (List RV)) (sz2 : Nat) (L2 : List (List RV)) : AV → List (Nat × Blk) → Nat → List Nat → Prop := fun r hp nx gs => r = r0 ∧ hp = [(0, .row sz L), (1, .row sz1 L1), (2, .row sz2 L2)] ∧ nx = 3 ∧ gs = []
theorem Spec.new3 {P : Program} {f : Nat} {args : List AV} {r0 : AV} {sz sz1 sz2 : Nat} {L L1 L2 : List (List RV)} {Q : AV → List (Nat × Blk) → Nat → List Nat → Prop} (h : Spec P f 0 [] args Q)
    (hq : ∀ r hp nx gs, Q r hp nx gs → ∃ b b1 b2, (b ≠ b1 ∧ b ≠ b2 ∧ b1 ≠ b2) ∧ r = renA (fun x => if x = 0 then b else if x = 1 then b1 else b2) r0 ∧ hget hp b = some (.row sz L) ∧ hget hp b1 = some (.row sz1 L1) ∧ hget hp b2 = some (.row sz2 L2))
    (hr : ∀ f g : Nat → Nat, f 0 = g 0 → f 1 = g 1 → f 2 = g 2 → renA f r0 = renA g r0) : Spec P f 0 [] args (New3 r0 sz L sz1 L1 sz2 L2) :=
  h.le fun r hp nx gs hQ => by
    obtain ⟨b, b1, b2, ⟨n1, n2, n3⟩, rfl, hb, hb1, hb2⟩ := hq _ _ _ _ hQ
    refine ⟨r0, [(0, .row sz L), (1, .row sz1 L1), (2, .row sz2 L2)], 3, [], ⟨rfl, rfl, rfl, rfl⟩, fun c hc => le_nums [(0, b), (1, b1), (2, b2)] (by simp) (by simp [hc]) ?_ ?_ (by simp [nums]; exact ⟨⟨n1, n2⟩, n3⟩) (by simp [hc]) ⟨List.nodup_nil, fun g hg => by cases hg⟩⟩
    · intro p hp'
      simp only [List.mem_singleton] at hp'
      subst hp'
      exact .inr (by simp only [get, if_true]; exact hr _ _ (by simp [nums]) (by simp [nums]) (by simp [nums]))
    · intro p hp'
      simp only [List.mem_cons, List.mem_singleton, List.not_mem_nil, or_false] at hp'
      rcases hp' with rfl | rfl | rfl
      · simpa [nums, renB] using hb
      · simpa [nums, renB] using hb1
      · simpa [nums, renB] using hb2
theorem call_new3 {c : Cx} {s : St} {f : Nat} {as0 args : List AV} {r0 : AV} {sz sz1 sz2 : Nat} {L L1 L2 : List (List RV)} {K : AV → St → Prop} (hs : Spec c.P f 0 [] as0 (New3 r0 sz L sz1 L1 sz2 L2)) (hc : closA r0 = true) (hL : closL2 L) (hL1 : closL2 L1) (hL2 : closL2 L2) (ha : Vws s.hp args as0)
    (hK : K (renA (s.nx + ·) r0) ⟨s.sl, (s.nx, .row sz L) :: (s.nx + 1, .row sz1 L1) :: (s.nx + 2, .row sz2 L2) :: s.hp, s.nx + 3, s.gs⟩) : Call c f args s K :=
  call_cl hs ha.spec fun r hp nx gs hQ => by
    obtain ⟨rfl, rfl, rfl, rfl⟩ := hQ
    refine ⟨⟨hc, fun p hp => ?_⟩, hK⟩
    simp only [List.mem_cons, List.mem_singleton, List.not_mem_nil, or_false] at hp
    rcases hp with rfl | rfl | rfl
    · exact hL
    · exact hL1
    · exact hL2
end Go.Cap

/- The engine, part 37: freezing between two parts of code. -/
namespace Go.Cap
open Go
set_option linter.unusedSimpArgs false
set_option linter.unusedVariables false

theorem take_map_len {α β : Type} (f : α → β) (l : List α) : List.take l.length (l.map f) = l.map f := List.take_of_length_le (by simp)
theorem run_frz {c : Cx} {p : PC} {s : St} {n r : St → Prop} {x : Nat → St → Prop} (b : Nat) {sz : Nat} {L : List (List RV)} (hb : hget s.hp b = some (.row sz L)) (hs : frzPS b L.length s.sl) (hh : frzPH b L.length s.hp)
    (h : Run c p ⟨frzS b L s.sl, hdel (frzH b L s.hp) b, s.nx, s.gs⟩ n x r) : Run c p s n x r := run_le (le_frz b hb hs hh) h
end Go.Cap

/- The engine, part 38: results that are data; a named block and any results. -/
namespace Go.Cap
open Go
set_option linter.unusedSimpArgs false
set_option linter.unusedVariables false

/-- A call with one named block (plain), whatever it leaves. -/
theorem call_named1G {c : Cx} {s : St} {f : Nat} {B : Blk} {as0 args : List AV} {Q : AV → List (Nat × Blk) → Nat → List Nat → Prop} {K : AV → St → Prop} (b : Nat) (hs : Spec c.P f 1 [(0, B)] as0 Q) (hb : hget s.hp b = some B) (hB : plainBlk B = true)
    (ha : args = as0.map (renA (idf [b] s.nx))) (hK : ∀ r hp' nx' gs', Q r hp' nx' gs' → K (renA (idf [b] s.nx) r) ⟨s.sl, renH (idf [b] s.nx) hp' ++ hdel s.hp b, s.nx + (nx' - 1), gs' ++ s.gs⟩) : Call c f args s K := by
  refine call_spec [b] hs (by simp) ?_ ?_ ha fun r hp' nx' gs' h => ?_
  · intro p hp
    simp only [List.mem_singleton] at hp
    subst hp
    exact ⟨by simp, by rw [renB_id hB]; exact hb⟩
  · intro j hj
    have : j = 0 := by simp at hj; exact hj
    subst this
    exact ⟨B, by simp⟩
  · simpa [hdels] using hK r hp' nx' gs' h
/-- A result that is data. -/
def Plain (Q : AV → Prop) : AV → List (Nat × Blk) → Nat → List Nat → Prop := fun r hp nx gs => Q r ∧ hp = [] ∧ nx = 0 ∧ gs = []
mutual
theorem ren_plain {f : Nat → Nat} : ∀ (x : AV), plainA x = true → renA f x = x
  | .r x, _ => rfl
  | .agg cs, h => by simp only [renA, renL_id h]
  | .junk, _ => rfl
  | .ptr .., h => by cases h
  | .sl .., h => by cases h
  | .rp .., h => by cases h
  | .tup .., h => by cases h
  | .fn .., h => by cases h
end
/-- Data, or several of them. -/
def dataA : AV → Bool
  | .tup vs => plainA.plainL vs
  | v => plainA v
theorem ren_data {f : Nat → Nat} (x : AV) (h : dataA x = true) : renA f x = x := by
  cases x with
  | tup vs => simp only [renA, renL_id (by simpa [dataA] using h)]
  | r x => rfl
  | agg cs => exact ren_plain _ h
  | junk => rfl
  | ptr => cases h
  | sl => cases h
  | rp => cases h
  | fn => cases h
theorem call_plain {c : Cx} {s : St} {f : Nat} {args : List AV} {Q : AV → Prop} {K : AV → St → Prop} (hs : Spec c.P f 0 [] args (Plain Q)) (ha : plainA.plainL args = true) (hK : ∀ r, Q r → dataA r = true ∧ K r s) : Call c f args s K := by
  refine call_spec [] hs (by simp) (fun p hp => by cases hp) (fun j hj => by simp at hj) ?_ fun r hp' nx' gs' h => ?_
  · have : ∀ (f : Nat → Nat) (l : List AV), plainA.plainL l = true → l.map (renA f) = l := fun f l hl => by rw [← renL_eq, renL_id hl]
    exact (this _ _ ha).symm
  · obtain ⟨hq, rfl, rfl, rfl⟩ := h
    obtain ⟨h1, h2⟩ := hK r hq
    simpa [ren_data r h1, renH, hdels] using h2
/-- A named block and a result that is data. -/
def NamedP (Q : AV → Blk → Prop) : AV → List (Nat × Blk) → Nat → List Nat → Prop := fun r hp nx gs => ∃ B, Q r B ∧ hp = [(0, B)] ∧ nx = 1 ∧ gs = []
theorem call_namedP {c : Cx} {s : St} {f : Nat} {B : Blk} {as0 args : List AV} {Q : AV → Blk → Prop} {K : AV → St → Prop} (b : Nat) (hs : Spec c.P f 1 [(0, B)] as0 (NamedP Q)) (hb : hget s.hp b = some B) (hB : plainBlk B = true)
    (ha : args = as0.map (renA (idf [b] s.nx))) (hQ : ∀ r B', Q r B' → dataA r = true ∧ plainBlk B' = true) (hK : ∀ r B', Q r B' → K r ⟨s.sl, (b, B') :: hdel s.hp b, s.nx, s.gs⟩) : Call c f args s K := by
  refine call_named1G b hs hb hB ha fun r hp' nx' gs' h => ?_
  obtain ⟨B', hq, rfl, rfl, rfl⟩ := h
  obtain ⟨h1, h2⟩ := hQ r B' hq
  have := hK r B' hq
  simpa [ren_data r h1, renB_id h2, renH, idf] using this
end Go.Cap

/- The engine, part 39: nil read as no rows; new blocks as data. -/
namespace Go.Cap
open Go
set_option linter.unusedSimpArgs false
set_option linter.unusedVariables false

/-- A nil slice is a slice without rows. -/
theorem le_nil {c : Cx} {i : Nat} {hp : List (Nat × Blk)} {nx : Nat} {gs : List Nat} : Le c ⟨[(i, .r .nil)], hp, nx, gs⟩ ⟨[(i, .r (.ro none []))], hp, nx, gs⟩ := by
  intro M ι a w h
  refine ⟨M, ι, h.wr, fun j => ?_, h.nt, h.df⟩
  have hj := h.slots j
  simp only [get] at hj ⊢
  split
  · rename_i e
    rw [if_pos e] at hj
    generalize a.tmps.getD j undef = v at hj
    cases hj with
    | r x v hx => exact .r _ _ hx.nil_ro
  · exact .junk _
/-- All nil slices read as slices without rows. -/
def denil : AV → AV
  | .r .nil => .r (.ro none [])
  | .agg cs => .agg (denilL cs)
  | .tup vs => .tup (denilL vs)
  | v => v
where denilL : List AV → List AV
  | [] => []
  | v :: l => denil v :: denilL l
theorem denilL_eq : ∀ (l : List AV), denil.denilL l = l.map denil
  | [] => rfl
  | v :: l => by rw [denil.denilL, denilL_eq l]; rfl
@[go_sem] theorem denil_nil : denil (.r .nil) = .r (.ro none []) := (rfl)
@[go_sem] theorem denil_n (k : IntKind) (x : Int) : denil (.r (.n k x)) = .r (.n k x) := (rfl)
@[go_sem] theorem denil_b (x : Bool) : denil (.r (.b x)) = .r (.b x) := (rfl)
@[go_sem] theorem denil_s (x : List UInt8) : denil (.r (.s x)) = .r (.s x) := (rfl)
@[go_sem] theorem denil_ro (g : Option Nat) (L : List (List RV)) : denil (.r (.ro g L)) = .r (.ro g L) := (rfl)
@[go_sem] theorem denil_sl (b st n : Nat) : denil (.sl b st n) = .sl b st n := (rfl)
@[go_sem] theorem denil_agg (cs : List AV) : denil (.agg cs) = .agg (denil.denilL cs) := (rfl)
@[go_sem] theorem denil_tup (cs : List AV) : denil (.tup cs) = .tup (denil.denilL cs) := (rfl)
@[go_sem] theorem denilL_nil : denil.denilL [] = [] := (rfl)
@[go_sem] theorem denilL_cons (v : AV) (l : List AV) : denil.denilL (v :: l) = denil v :: denil.denilL l := (rfl)
theorem Ar.denil {M : Mem} {ι : Nat → Option BI} {x : AV} {v : Value} (h : Ar M ι x v) : Ar M ι (denil x) v := by
  induction h with
  | r x v h =>
    cases x with
    | nil => exact .r _ _ h.nil_ro
    | _ => exact .r _ _ h
  | ptr b i f g cap sz h => exact .ptr b i f g cap sz h
  | slv b cap sz h => exact .slv b cap sz h
  | sl b st n c g cap sz h hn hc hm => exact .sl b st n c g cap sz h hn hc hm
  | sle b st a bi h => exact .sle b st a bi h
  | rp cs f blk o arr e fr hM hv => exact .rp cs f blk o arr e fr hM hv
  | agg cs vs hl h1 h ih =>
    simp only [Cap.denil, denilL_eq]
    refine .agg _ vs (by rw [List.length_map]; exact hl) h1 fun j c v hc hv => ?_
    rw [List.getElem?_map] at hc
    cases hj : cs[j]? with
    | none => rw [hj] at hc; cases hc
    | some c0 => rw [hj] at hc; cases hc; exact ih j c0 v hj hv
  | tup cs vs hl h ih =>
    simp only [Cap.denil, denilL_eq]
    refine .tup _ vs (by rw [List.length_map]; exact hl) fun j c v hc hv => ?_
    rw [List.getElem?_map] at hc
    cases hj : cs[j]? with
    | none => rw [hj] at hc; cases hc
    | some c0 => rw [hj] at hc; cases hc; exact ih j c0 v hj hv
  | fn f cs vs hl h ih => exact .fn f cs vs hl h
  | junk v => exact .junk v
theorem le_denil {c : Cx} {i : Nat} {x : AV} {hp : List (Nat × Blk)} {nx : Nat} {gs : List Nat} : Le c ⟨[(i, x)], hp, nx, gs⟩ ⟨[(i, denil x)], hp, nx, gs⟩ := by
  intro M ι a w h
  refine ⟨M, ι, h.wr, fun j => ?_, h.nt, h.df⟩
  have hj := h.slots j
  simp only [get] at hj ⊢
  split
  · rename_i e
    rw [if_pos e] at hj
    exact hj.denil
  · exact .junk _
theorem Spec.nilP {P : Program} {f : Nat} {args : List AV} (hs : Spec P f 0 [] args (fun r _ _ _ => r = .r .nil)) : Spec P f 0 [] args (Plain fun r => r = .r (.ro none [])) :=
  Spec.le hs fun r hp nx gs h => by
    subst h
    refine ⟨.r (.ro none []), [], 0, [], ⟨rfl, rfl, rfl, rfl⟩, fun c hc => ?_⟩
    refine Le.trans (t := ⟨[(0, .r .nil)], [], 0, []⟩) (le_ev [] (by simp only [hc, go_sem, ↓reduceIte])) le_nil
theorem Spec.dataP {P : Program} {f sz : Nat} {args : List AV} {L : List (List RV)} (hs : Spec P f 0 [] args (New1 (.sl 0 0 L.length) sz L)) : Spec P f 0 [] args (Plain fun r => r = .r (.ro none L)) :=
  Spec.le hs fun r hp nx gs h => by
    obtain ⟨rfl, rfl, rfl, rfl⟩ := h
    refine ⟨.r (.ro none L), [], 0, [], ⟨rfl, rfl, rfl, rfl⟩, fun c hc => ?_⟩
    refine Le.trans (le_frz 0 rfl (by simp only [go_sem]) (by simp only [go_sem])) ?_
    simp only [go_sem, ↓reduceIte, List.drop_zero, List.take_length]
    exact le_ev [] (by simp only [hc, go_sem, ↓reduceIte])
/-- A result that is a new slice with the rows L (or any cells in between). -/
theorem Spec.data1 {P : Program} {f sz : Nat} {args : List AV} {L : List (List RV)} {Q : AV → List (Nat × Blk) → Nat → List Nat → Prop} (hs : Spec P f 0 [] args Q) (hq : ∀ r hp nx gs, Q r hp nx gs → ∃ b, r = .sl b 0 L.length ∧ hget hp b = some (.row sz L)) : Spec P f 0 [] args (Plain fun r => r = .r (.ro none L)) :=
  (Spec.new1 (r0 := .sl 0 0 L.length) hs hq (fun f g h => by simp only [go_sem, h])).dataP
end Go.Cap

/- The engine, part 40: results that are data, whatever is left. -/
namespace Go.Cap
open Go
set_option linter.unusedSimpArgs false
set_option linter.unusedVariables false

theorem plainL_get : ∀ {cs : List AV} {j : Nat} {c : AV}, plainA.plainL cs = true → cs[j]? = some c → plainA c = true
  | [], j, c, _, h => by simp at h
  | v :: l, 0, c, hf, h => by simp [plainA.plainL] at hf h; subst h; exact hf.1
  | v :: l, j + 1, c, hf, h => by simp [plainA.plainL] at hf h; exact plainL_get hf.2 h
theorem Ar.plain {M : Mem} {ι ι' : Nat → Option BI} {x : AV} {v : Value} (h : Ar M ι x v) : plainA x = true → Ar M ι' x v := by
  induction h with
  | r x v h => intro _; exact .r x v h
  | agg cs vs hl h1 h ih => intro hp; exact .agg cs vs hl h1 fun j c v hc hv => ih j c v hc hv (plainL_get hp hc)
  | junk v => intro _; exact .junk v
  | ptr => intro hp; cases hp
  | slv => intro hp; cases hp
  | sl => intro hp; cases hp
  | sle => intro hp; cases hp
  | rp => intro hp; cases hp
  | tup => intro hp; cases hp
  | fn => intro hp; cases hp
theorem Ar.data {M : Mem} {ι ι' : Nat → Option BI} {x : AV} {v : Value} (h : Ar M ι x v) (hp : dataA x = true) : Ar M ι' x v := by
  cases h with
  | tup cs vs hl h => exact .tup cs vs hl fun j c v hc hv => (h j c v hc hv).plain (plainL_get hp hc)
  | r x v h => exact (Ar.r (ι := ι) x v h).plain hp
  | agg cs vs hl h1 h => exact (Ar.agg (ι := ι) cs vs hl h1 h).plain hp
  | junk v => exact .junk v
  | ptr => cases hp
  | slv => cases hp
  | sl => cases hp
  | sle => cases hp
  | rp => cases hp
  | fn => cases hp
theorem le_data {c : Cx} {i : Nat} {x : AV} {hp : List (Nat × Blk)} {nx : Nat} {gs : List Nat} (hc : c.m = 0) (hx : dataA x = true) : Le c ⟨[(i, x)], hp, nx, gs⟩ ⟨[(i, x)], [], 0, []⟩ := by
  intro M ι a w h
  have W := h.wr
  refine ⟨M, fun _ => none, { msub := W.msub, m0 := W.m0, mnew := W.mnew, heap := ?_, inj := ?_, own := ?_, kept := W.kept, fresh := ?_, mle := ?_, anc := ?_, gsn := ?_, gsm := ?_ }, fun j => ?_, h.nt, h.df⟩
  · intro b blk hb; cases hb
  · intro b b' bi bi' g hb; exact absurd rfl hb
  · intro b bi g hb; exact absurd rfl hb
  · intro b _; rfl
  · rw [hc]; exact Nat.le_refl _
  · intro b x hb h; cases h
  · exact List.nodup_nil
  · intro g hg; cases hg
  have hj := h.slots j
  simp only [get] at hj ⊢
  split
  · rename_i e
    rw [if_pos e] at hj
    exact hj.data hx
  · exact .junk _
theorem Spec.plainQ {P : Program} {f : Nat} {args : List AV} {Q : AV → Prop} (hs : Spec P f 0 [] args (fun r _ _ _ => Q r)) (hd : ∀ r, Q r → dataA r = true) : Spec P f 0 [] args (Plain Q) :=
  Spec.le hs fun r hp nx gs h => ⟨r, [], 0, [], ⟨h, rfl, rfl, rfl⟩, fun c hc => le_data hc (hd r h)⟩
theorem Spec.plain {P : Program} {f : Nat} {args : List AV} {r0 : AV} (hs : Spec P f 0 [] args (fun r _ _ _ => r = r0)) (hd : dataA r0 = true) : Spec P f 0 [] args (Plain fun r => r = r0) :=
  hs.plainQ fun r h => by rw [h]; exact hd
/-- A call with data whose result is one certain data. -/
theorem call_data {c : Cx} {s : St} {f : Nat} {args : List AV} {r0 : AV} {K : AV → St → Prop} (hs : Spec c.P f 0 [] args (fun r _ _ _ => r = r0)) (hd : dataA r0 = true) (ha : plainA.plainL args = true) (hK : K r0 s) : Call c f args s K :=
  call_plain (hs.plain hd) ha fun r h => by subst h; exact ⟨hd, hK⟩
theorem call_dataP {c : Cx} {s : St} {f : Nat} {args : List AV} {r0 : AV} {K : AV → St → Prop} (hs : Spec c.P f 0 [] args (Plain fun r => r = r0)) (hd : dataA r0 = true) (ha : plainA.plainL args = true) (hK : K r0 s) : Call c f args s K :=
  call_plain hs ha fun r h => by subst h; exact ⟨hd, hK⟩
end Go.Cap
