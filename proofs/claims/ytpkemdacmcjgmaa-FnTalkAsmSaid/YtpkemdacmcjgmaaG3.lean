import Derived.Test.YtpkemdacmcjgmaaG2
import Derived.Test.YtpkemdacmcjgmaaS1
import Derived.Test.YtpkemdacmcjgmaaM1
import Derived.Test.YtpkemdacmcjgmaaV1
/- Parts that follow one another make groups; what an assembly gives of them, in order and in any order. -/
namespace Go.Cap
open Go Go.Proofs
set_option linter.unusedSimpArgs false
set_option linter.unusedVariables false

/-- The parts of a message that is still open. -/
structure PreG (g : List Data) : Prop where
  first : ∀ j (h : j < g.length), g[j].first = decide (j = 0)
  last : ∀ j (h : j + 1 < g.length), g[j].last = false
  like : ∀ j (h : j + 1 < g.length), likeB g[j + 1] g[j] = true
  tsn : ∀ j (h : j + 1 < g.length), g[j + 1].tsn = l3 g[j].tsn 1
theorem PreG.snoc {c : List Data} {d : Data} (h : PreG c) (hl : ∀ x ∈ c, x.last = false) (hf : d.first = decide (c.length = 0)) (hk : ∀ x, c.getLast? = some x → likeB d x = true ∧ d.tsn = l3 x.tsn 1) : PreG (c ++ [d]) := by
  have hlast : ∀ j (hj : j + 1 = c.length), c.getLast? = some (c[j]'(by omega)) := fun j hj => by
    rw [List.getLast?_eq_getElem?, List.getElem?_eq_getElem (by omega)]; congr 2; omega
  refine ⟨fun j hj => ?_, fun j hj => ?_, fun j hj => ?_, fun j hj => ?_⟩
  · rw [List.length_append, List.length_singleton] at hj
    rcases Nat.lt_or_ge j c.length with h1 | h1
    · rw [List.getElem_append_left h1]; exact h.first j h1
    · have : j = c.length := by omega
      subst this
      rw [List.getElem_concat_length rfl, hf]
  · rw [List.length_append, List.length_singleton] at hj
    rw [List.getElem_append_left (by omega)]; exact hl _ (List.getElem_mem _)
  · rw [List.length_append, List.length_singleton] at hj
    rcases Nat.lt_or_ge (j + 1) c.length with h1 | h1
    · rw [List.getElem_append_left h1, List.getElem_append_left (by omega)]; exact h.like j h1
    · have h2 : j + 1 = c.length := by omega
      rw [List.getElem_concat_length h2, List.getElem_append_left (by omega)]
      exact (hk _ (hlast j h2)).1
  · rw [List.length_append, List.length_singleton] at hj
    rcases Nat.lt_or_ge (j + 1) c.length with h1 | h1
    · rw [List.getElem_append_left h1, List.getElem_append_left (by omega)]; exact h.tsn j h1
    · have h2 : j + 1 = c.length := by omega
      rw [List.getElem_concat_length h2, List.getElem_append_left (by omega)]
      exact (hk _ (hlast j h2)).2
theorem PreG.close {c : List Data} {d : Data} (h : PreG (c ++ [d])) (hd : d.last = true) : Grp (c ++ [d]) := by
  refine ⟨by simp, h.first, fun j hj => ?_, h.like, h.tsn⟩
  by_cases h1 : j + 1 = (c ++ [d]).length
  · rw [decide_eq_true h1]
    rw [List.length_append, List.length_singleton] at h1
    have : j = c.length := by omega
    subst this
    rw [List.getElem_concat_length rfl]; exact hd
  · rw [decide_eq_false h1]; exact h.last j (by omega)
/-- Parts, cut into groups and what is still open. -/
structure Cut (P : List Data) (gs : List (List Data)) (cur : List Data) : Prop where
  eq : P = gs.flatten ++ cur
  grp : ∀ g ∈ gs, Grp g
  pre : PreG cur
  lst : ∀ x ∈ cur, x.last = false
  said : saidSt P = (gs.map msgG, cur.flatMap Data.text)
  rank : ∀ i (h : i < gs.length), (hd gs[i]).loose = false → (hd gs[i]).ssn = ((gs.take i).countP (ord (hd gs[i]).stream) : Nat)
  crank : cur ≠ [] → (hd cur).loose = false → (hd cur).ssn = (gs.countP (ord (hd cur).stream) : Nat)
  cnt : ∀ s, ssnIn P s = gs.countP (ord s) + (if cur ≠ [] ∧ ord s cur = true then 1 else 0)
theorem Cut.nil : Cut [] [] [] := ⟨rfl, fun g h => (List.not_mem_nil h).elim, ⟨fun j h => by simp at h, fun j h => by simp at h, fun j h => by simp at h, fun j h => by simp at h⟩, fun x h => (List.not_mem_nil h).elim, rfl, fun i h => by simp at h, fun h => absurd rfl h, fun s => by simp [ssnIn]⟩
theorem flat_last {gs : List (List Data)} (h : ∀ g ∈ gs, Grp g) {x : Data} (hx : gs.flatten.getLast? = some x) : x.last = true := by
  rcases gs.eq_nil_or_concat with rfl | ⟨g0, g, rfl⟩
  · simp at hx
  · rw [List.concat_eq_append] at h hx
    have hg := h g (by simp)
    rcases g.eq_nil_or_concat with rfl | ⟨c, y, rfl⟩
    · exact absurd rfl hg.ne
    · rw [List.concat_eq_append] at hx hg
      rw [List.flatten_append, List.flatten_singleton, ← List.append_assoc, List.getLast?_concat] at hx
      cases hx
      have := hg.last c.length (by simp)
      rw [List.getElem_concat_length rfl] at this
      rw [this]; simp
theorem hd_app {c : List Data} {d : Data} (h : c ≠ []) : hd (c ++ [d]) = hd c := by cases c with
  | nil => exact absurd rfl h
  | cons a l => rfl
theorem Cut.next {P : List Data} {gs : List (List Data)} {cur : List Data} {d : Data} (h : Cut P gs cur) (hm : mayB P d = true) (ht : ∀ x, P.getLast? = some x → d.tsn = l3 x.tsn 1) : ∃ gs' cur', Cut (P ++ [d]) gs' cur' := by
  -- what is known of the part that comes
  have hnew : cur = [] → d.first = true ∧ (d.loose = true ∨ d.ssn = (ssnIn P d.stream : Nat)) := fun hc => by
    have hP : P = gs.flatten := by rw [h.eq, hc, List.append_nil]
    unfold mayB at hm
    cases hx : P.getLast? with
    | none => rw [hx] at hm; simpa using hm
    | some x =>
      rw [hx] at hm
      have := flat_last h.grp (hP ▸ hx)
      simp only [this, if_true] at hm
      simpa using hm
  have hold : ∀ x, cur.getLast? = some x → d.first = false ∧ likeB d x = true ∧ d.tsn = l3 x.tsn 1 := fun x hx => by
    have hP : P.getLast? = some x := by rw [h.eq, List.getLast?_append, hx]; rfl
    have hxl := h.lst x (List.mem_of_getLast? hx)
    unfold mayB at hm
    rw [hP] at hm
    simp only [hxl, Bool.false_eq_true, if_false, Bool.and_eq_true, Bool.not_eq_true'] at hm
    exact ⟨hm.1, hm.2, ht x hP⟩
  have hfirst : d.first = decide (cur.length = 0) := by
    by_cases hc : cur = []
    · rw [(hnew hc).1, hc]; rfl
    · obtain ⟨x, hx⟩ : ∃ x, cur.getLast? = some x := by cases hg : cur.getLast? with
        | none => exact absurd (List.getLast?_eq_none_iff.1 hg) hc
        | some x => exact ⟨x, rfl⟩
      rw [(hold x hx).1, decide_eq_false (fun e => hc (List.eq_nil_of_length_eq_zero e))]
  have hpre : PreG (cur ++ [d]) := h.pre.snoc h.lst hfirst fun x hx => (hold x hx).2
  have hhd : hd (cur ++ [d]) = if cur = [] then d else hd cur := by
    split
    · rename_i hc; rw [hc]; rfl
    · rename_i hc; exact hd_app hc
  have hrk : (hd (cur ++ [d])).loose = false → (hd (cur ++ [d])).ssn = (gs.countP (ord (hd (cur ++ [d])).stream) : Nat) := by
    by_cases hc : cur = []
    · rw [hhd, if_pos hc]
      intro hl
      rcases (hnew hc).2 with h1 | h1
      · rw [h1] at hl; cases hl
      · rw [h1, h.cnt, hc]; simp
    · rw [hhd, if_neg hc]; exact h.crank hc
  have hcnt : ∀ s, ssnIn (P ++ [d]) s = gs.countP (ord s) + (if ord s (cur ++ [d]) = true then 1 else 0) := fun s => by
    rw [ssnIn_app, h.cnt s]
    by_cases hc : cur = []
    · have h1 := (hnew hc).1
      subst hc
      simp [ssnIn, ord, h1, hd, List.countP_cons]
    · have h1 : d.first = false := by rw [hfirst, decide_eq_false (fun e => hc (List.eq_nil_of_length_eq_zero e))]
      have h2 : ord s (cur ++ [d]) = ord s cur := by unfold ord; rw [hd_app hc]
      rw [h2]
      simp [ssnIn, h1, hc, List.countP_cons]
  have htxt : (cur ++ [d]).flatMap Data.text = cur.flatMap Data.text ++ d.text := by simp
  by_cases hdl : d.last = true
  · have hg := hpre.close hdl
    obtain ⟨k1, k2, k3⟩ := like_mem hg (d := d) (by simp)
    refine ⟨gs ++ [cur ++ [d]], [], ?_⟩
    refine ⟨by rw [h.eq]; simp, fun g hgm => ?_, Cut.nil.pre, fun x hx => (List.not_mem_nil hx).elim, ?_, fun i hi => ?_, fun hx => absurd rfl hx, fun s => ?_⟩
    · rcases List.mem_append.1 hgm with hgm | hgm
      · exact h.grp g hgm
      · simp only [List.mem_singleton] at hgm; subst hgm; exact hg
    · rw [saidSt_app, h.said]
      simp only [List.foldl_cons, List.foldl_nil, saidStep, hdl, if_true, List.map_append, List.map_cons, List.map_nil, List.flatMap_nil]
      unfold msgG
      rw [← k1, ← k2, ← k3, htxt]
    · rw [List.length_append, List.length_singleton] at hi
      rcases Nat.lt_or_ge i gs.length with h1 | h1
      · rw [List.getElem_append_left h1, List.take_append_of_le_length (by omega)]; exact h.rank i h1
      · have : i = gs.length := by omega
        subst this
        rw [List.getElem_concat_length rfl, List.take_left]
        exact hrk
    · rw [hcnt, List.countP_append, List.countP_cons, List.countP_nil]; simp
  · have hdl' : d.last = false := by simpa using hdl
    refine ⟨gs, cur ++ [d], ?_⟩
    refine ⟨by rw [h.eq, List.append_assoc], h.grp, hpre, fun x hx => ?_, ?_, h.rank, fun _ => hrk, fun s => ?_⟩
    · rcases List.mem_append.1 hx with hx | hx
      · exact h.lst x hx
      · simp only [List.mem_singleton] at hx; subst hx; exact hdl'
    · rw [saidSt_app, h.said]
      simp only [List.foldl_cons, List.foldl_nil, saidStep, hdl', Bool.false_eq_true, if_false, htxt]
    · rw [hcnt]; simp
/-- Parts of a side: numbered, each one may follow the ones ahead of it. -/
def SeqP (f : Int) (n : Nat) (P : List Data) : Prop := ∀ i (hi : i < P.length), dataB P[i] = true ∧ P[i].tsn = l3 f i ∧ P[i].stream < n ∧ mayB (P.take i) P[i] = true
theorem SeqP.cut {f : Int} {n : Nat} {P : List Data} (h : SeqP f n P) : ∃ gs cur, Cut P gs cur := by
  have key : ∀ i, i ≤ P.length → ∃ gs cur, Cut (P.take i) gs cur := by
    intro i
    induction i with
    | zero => intro _; exact ⟨[], [], by rw [List.take_zero]; exact Cut.nil⟩
    | succ i ih =>
      intro hi
      obtain ⟨gs, cur, hc⟩ := ih (by omega)
      have hil : i < P.length := by omega
      rw [take_get hil]
      refine hc.next (h i hil).2.2.2 fun x hx => ?_
      have hlen : (P.take i).length = i := by rw [List.length_take]; omega
      rw [List.getLast?_eq_getElem?, hlen] at hx
      rcases Nat.eq_zero_or_pos i with h0 | h0
      · subst h0; simp at hx
      · rw [List.getElem?_take_of_lt (by omega), List.getElem?_eq_getElem (by omega)] at hx
        cases hx
        rw [(h i hil).2.1, (h (i - 1) (by omega)).2.1, l3_l3]
        congr 1; omega
  have := key P.length (Nat.le_refl _)
  rwa [List.take_length] at this
theorem grps_of {gs : List (List Data)} {f : Int} (hg : ∀ g ∈ gs, Grp g) (ht : ∀ j (h : j < gs.flatten.length), gs.flatten[j].tsn = l3 f j) (hl : gs.flatten.length ≤ 13)
    (hr : ∀ i (h : i < gs.length), (hd gs[i]).loose = false → (hd gs[i]).ssn = ((gs.take i).countP (ord (hd gs[i]).stream) : Nat)) : Grps gs := by
  refine ⟨hg, fun d hd e he hde => ?_, ?_, fun d hd => ?_, hr⟩
  · obtain ⟨i, hi, rfl⟩ := List.getElem_of_mem hd
    obtain ⟨j, hj, rfl⟩ := List.getElem_of_mem he
    rw [ht i hi, ht j hj] at hde
    have := l3_inj (by omega) (by omega) hde
    subst this; rfl
  · refine List.pairwise_iff_getElem.2 fun i j hi hj hij e => ?_
    have h1 := ht i hi
    rw [e, ht j hj] at h1
    have := l3_inj (by omega) (by omega) h1
    omega
  · obtain ⟨i, hi, rfl⟩ := List.getElem_of_mem hd
    rw [ht i hi]; exact l3_range f i
theorem SeqP.str {f : Int} {n : Nat} {P : List Data} (h : SeqP f n P) : ∀ d ∈ P, 0 ≤ d.stream ∧ d.stream < n := fun d hd => by
  obtain ⟨i, hi, rfl⟩ := List.getElem_of_mem hd
  exact ⟨(data_ok (h i hi).1).2.1.1, (h i hi).2.2.1⟩
theorem SeqP.ok {f : Int} {n : Nat} {P : List Data} (h : SeqP f n P) : ∀ d ∈ P, dataB d = true := fun d hd => by
  obtain ⟨i, hi, rfl⟩ := List.getElem_of_mem hd
  exact (h i hi).1
theorem groups_len {gs : List (List Data)} (h : ∀ g ∈ gs, Grp g) : gs.length ≤ gs.flatten.length := by
  induction gs with
  | nil => simp
  | cons g gs ih =>
    have h1 := ih fun x hx => h x (List.mem_cons_of_mem _ hx)
    have h2 := List.length_pos_iff.2 (h g (List.mem_cons_self ..)).ne
    rw [List.flatten_cons, List.length_append, List.length_cons]; omega
/-- What is open is closed by a part that never comes. -/
theorem SeqP.base {f : Int} {n : Nat} {P : List Data} {gs : List (List Data)} {cur : List Data} (h : SeqP f n P) (C : Cut P gs cur) (hl : P.length ≤ 12) (hn : 1 ≤ n ∧ n ≤ 4) :
    ∃ ge, Base ge n ∧ (∀ d ∈ P, d ∈ ge.flatten) ∧ P.Nodup ∧ (ge = gs ∧ cur = [] ∨ ∃ e, ge = gs ++ [cur ++ [e]] ∧ e ∉ P ∧ cur ≠ []) := by
  by_cases hc : cur = []
  · have hP : P = gs.flatten := by rw [C.eq, hc, List.append_nil]
    have G : Grps gs := grps_of C.grp (f := f) (by rw [← hP]; exact fun j hj => (h j hj).2.1) (by rw [← hP]; omega) C.rank
    refine ⟨gs, ⟨G, hn, ?_, by rw [← hP]; exact h.str⟩, fun d hd => hP ▸ hd, hP ▸ G.nd, .inl ⟨rfl, hc⟩⟩
    have := groups_len C.grp
    rw [← hP] at this; omega
  · obtain ⟨x, hx⟩ : ∃ x, cur.getLast? = some x := by cases hg : cur.getLast? with
      | none => exact absurd (List.getLast?_eq_none_iff.1 hg) hc
      | some x => exact ⟨x, rfl⟩
    have hxm := List.mem_of_getLast? hx
    have hpos : 0 < cur.length := List.length_pos_iff.2 hc
    have hPl : P.length = gs.flatten.length + cur.length := by rw [C.eq, List.length_append]
    have hxt : x.tsn = l3 f (P.length - 1 : Nat) := by
      have h1 : P.getLast? = some x := by rw [C.eq, List.getLast?_append, hx]; rfl
      rw [List.getLast?_eq_getElem?, List.getElem?_eq_getElem (by omega)] at h1
      cases h1
      exact (h _ _).2.1
    let e : Data := ⟨l3 f P.length, x.stream, x.ssn, false, true, x.loose, []⟩
    have hpre : PreG (cur ++ [e]) := C.pre.snoc C.lst (by rw [decide_eq_false (by omega)]) fun y hy => by
      rw [hx] at hy; cases hy
      refine ⟨by simp [likeB, e], ?_⟩
      show l3 f P.length = _
      rw [hxt, l3_l3]; congr 1; omega
    have hge : (gs ++ [cur ++ [e]]).flatten = P ++ [e] := by rw [C.eq]; simp
    have htsn : ∀ j (hj : j < (P ++ [e]).length), (P ++ [e])[j].tsn = l3 f j := fun j hj => by
      rw [List.length_append, List.length_singleton] at hj
      rcases Nat.lt_or_ge j P.length with h1 | h1
      · rw [List.getElem_append_left h1]; exact (h j h1).2.1
      · have : j = P.length := by omega
        subst this
        rw [List.getElem_concat_length rfl]
    have hgrp : ∀ g ∈ gs ++ [cur ++ [e]], Grp g := fun g hg => by
      rcases List.mem_append.1 hg with hg | hg
      · exact C.grp g hg
      · simp only [List.mem_singleton] at hg; subst hg; exact hpre.close rfl
    have G : Grps (gs ++ [cur ++ [e]]) := grps_of hgrp (f := f) (by rw [hge]; exact htsn) (by rw [hge]; simp; omega) fun i hi => by
      rw [List.length_append, List.length_singleton] at hi
      rcases Nat.lt_or_ge i gs.length with h1 | h1
      · rw [List.getElem_append_left h1, List.take_append_of_le_length (by omega)]; exact C.rank i h1
      · have : i = gs.length := by omega
        subst this
        rw [List.getElem_concat_length rfl, List.take_left, hd_app hc]
        exact C.crank hc
    have hnd := G.nd
    rw [hge] at hnd
    refine ⟨gs ++ [cur ++ [e]], ⟨G, hn, ?_, ?_⟩, fun d hd => by rw [hge]; exact List.mem_append_left _ hd, (List.nodup_append.1 hnd).1, .inr ⟨e, rfl, fun he => absurd rfl ((List.nodup_append.1 hnd).2.2 e he e (by simp)), hc⟩⟩
    · have := groups_len hgrp
      rw [hge] at this
      have h2 : (P ++ [e]).length ≤ 13 := by rw [List.length_append, List.length_singleton]; omega
      omega
    · rw [hge]
      intro d hd
      rcases List.mem_append.1 hd with hd | hd
      · exact h.str d hd
      · simp only [List.mem_singleton] at hd
        subst hd
        have : x ∈ P := by rw [C.eq]; exact List.mem_append_right _ hxm
        exact h.str x this
theorem only_one {α : Type} {l : List α} {y : α} (hn : l.Nodup) (h : ∀ x ∈ l, x = y) (hy : y ∈ l) : l = [y] := by
  cases l with
  | nil => cases hy
  | cons a l =>
    have ha := h a (List.mem_cons_self ..)
    subst ha
    cases l with
    | nil => rfl
    | cons b l =>
      have hb := h b (by simp)
      subst hb
      simp at hn
/-- In order, each group is told when its last part comes. -/
theorem SeqP.order {f : Int} {n : Nat} {P : List Data} {gs : List (List Data)} {cur : List Data} (h : SeqP f n P) (C : Cut P gs cur) (hl : P.length ≤ 12) (hn : 1 ≤ n ∧ n ≤ 4) :
    ∃ ge a, Base ge n ∧ AInv ge n P a (gs.map msgG) gs ∧ P.foldl asmStep (asmNew n, []) = (a, gs.map msgG) ∧ Sub ge P ∧ (cur = [] → ge = gs) := by
  obtain ⟨ge, B, hsub, hPn, hge⟩ := h.base C hl hn
  have hgl : gs.length ≤ ge.length := by rcases hge with ⟨e, _⟩ | ⟨e, he, _, _⟩ <;> simp [*]
  have hget : ∀ i (hi : i < gs.length), ge[i]'(by omega) = gs[i] := fun i hi => by
    rcases hge with ⟨e, _⟩ | ⟨e, he, _, _⟩
    · subst e; rfl
    · subst he; exact List.getElem_append_left hi
  have hmem : ∀ g ∈ gs, g ∈ ge := fun g hg => by
    obtain ⟨i, hi, rfl⟩ := List.getElem_of_mem hg
    rw [← hget i hi]; exact List.getElem_mem _
  have hgn : gs.Nodup := by
    have := B.G.nodup
    rcases hge with ⟨e, _⟩ | ⟨e, he, _, _⟩
    · exact e ▸ this
    · rw [he] at this; exact (List.nodup_append.1 this).1
  have hAP : Sub ge P := ⟨hsub, hPn⟩
  have hdue0 : due (asmNew n) = none := rfl
  have hpfx : ∀ m, m ≤ gs.length → ∃ more, P = (gs.take m).flatten ++ more := fun m hm => by
    refine ⟨(gs.drop m).flatten ++ cur, ?_⟩
    rw [← List.append_assoc, ← List.flatten_append, List.take_append_drop]; exact C.eq
  have key : ∀ m, m ≤ gs.length → ∃ a, AInv ge n (gs.take m).flatten a ((gs.take m).map msgG) (gs.take m) ∧ due a = none ∧ (gs.take m).flatten.foldl asmStep (asmNew n, []) = (a, (gs.take m).map msgG) := by
    intro m
    induction m with
    | zero => intro _; exact ⟨asmNew n, AInv.start ge n, hdue0, rfl⟩
    | succ m ih =>
      intro hm
      obtain ⟨a, I, hd0, hf⟩ := ih (by omega)
      have hml : m < gs.length := by omega
      have htk : (gs.take (m + 1)).flatten = (gs.take m).flatten ++ gs[m] := by rw [take_get hml, List.flatten_append, List.flatten_singleton]
      obtain ⟨more, hP⟩ := hpfx (m + 1) hm
      have A : Sub ge ((gs.take m).flatten ++ gs[m]) := by rw [← htk]; rw [hP] at hAP; exact hAP.left
      have hlen : ((gs.take m).flatten ++ gs[m]).length ≤ 12 := by rw [← htk]; have := congrArg List.length hP; rw [List.length_append] at this; omega
      obtain ⟨T', I', hd'⟩ := I.run B gs[m] _ _ _ _ A hd0 hlen fun x hx => h.ok x (by rw [hP, htk]; exact List.mem_append_left _ hx)
      have hT' : T' = [gs[m]] := by
        have hnd := List.nodup_append.1 I'.nd
        refine only_one hnd.2.1 (fun t ht => ?_) ?_
        · have htg := I'.sub t (List.mem_append_right _ ht)
          have hm0 := hd_mem (B.G.grp t htg).ne
          have := I'.in_ t (List.mem_append_right _ ht) _ hm0
          rcases List.mem_append.1 this with h1 | h1
          · obtain ⟨g, hg, hgd⟩ := List.mem_flatten.1 h1
            have := B.G.same htg (I.sub g hg) hm0 hgd
            subst this
            exact absurd rfl (hnd.2.2 t hg t ht)
          · exact B.G.same htg (hmem _ (List.getElem_mem hml)) hm0 h1
        · have := I'.whole B A hd' m (by omega) fun j hj d hdm => by
            rw [hget j (by omega)] at hdm
            rw [← htk]
            exact Grps.mem (List.mem_take_iff_getElem.2 ⟨j, by omega, rfl⟩) hdm
          rw [hget m hml] at this
          rcases List.mem_append.1 this with h1 | h1
          · obtain ⟨j, hj, hj2⟩ := List.mem_take_iff_getElem.1 h1
            have := nd_inj hgn (i := j) (j := m) (by omega) hml hj2
            omega
          · exact h1
      have hms : (gs[m].foldl asmStep (a, (gs.take m).map msgG)).2 = (gs.take (m + 1)).map msgG := by
        rw [I'.ms, hT', take_get hml]
      refine ⟨(gs[m].foldl asmStep (a, (gs.take m).map msgG)).1, ?_, hd', ?_⟩
      · rw [hT', hms, ← htk, ← take_get hml] at I'; exact I'
      · rw [htk, List.foldl_append, hf, ← hms]
  obtain ⟨a, I, hd0, hf⟩ := key gs.length (Nat.le_refl _)
  rw [List.take_length] at I hf
  have hPe := C.eq
  obtain ⟨T', I', hd'⟩ := I.run B cur _ _ _ _ (hPe ▸ hAP) hd0 (hPe ▸ hl) (hPe ▸ h.ok)
  have hT' : T' = [] := by
    cases hT : T' with
    | nil => rfl
    | cons t T2 =>
      exfalso
      have ht : t ∈ T' := by rw [hT]; simp
      have hnd := List.nodup_append.1 I'.nd
      have htg := I'.sub t (List.mem_append_right _ ht)
      have hm0 := hd_mem (B.G.grp t htg).ne
      have hin := I'.in_ t (List.mem_append_right _ ht)
      rcases hge with ⟨e, hc⟩ | ⟨e, he, heP, hcn⟩
      · subst e
        exact absurd rfl (hnd.2.2 t htg t ht)
      · rw [he] at htg
        rcases List.mem_append.1 htg with h1 | h1
        · exact absurd rfl (hnd.2.2 t h1 t ht)
        · simp only [List.mem_singleton] at h1
          have := hin e (by rw [h1]; simp)
          rw [← hPe] at this
          exact heP this
  refine ⟨ge, (cur.foldl asmStep (a, gs.map msgG)).1, B, ?_, ?_, hAP, ?_⟩
  · have hms2 := I'.ms
    rw [hT', List.append_nil] at hms2
    rw [hms2, hT', List.append_nil, ← hPe] at I'; exact I'
  · have hms : (cur.foldl asmStep (a, gs.map msgG)).2 = gs.map msgG := by rw [I'.ms, hT', List.append_nil]
    conv => lhs; rw [hPe, List.foldl_append, hf]
    exact Prod.ext rfl hms
  · intro hc
    rcases hge with ⟨e, _⟩ | ⟨e, he, heP, hcn⟩
    · exact e
    · exact absurd hc hcn
theorem SeqP.run {f : Int} {n : Nat} {P : List Data} (h : SeqP f n P) (hl : P.length ≤ 12) (hn : 1 ≤ n ∧ n ≤ 4) : asmRun n P = said P := by
  obtain ⟨gs, cur, C⟩ := h.cut
  obtain ⟨ge, a, B, I, hf, _, _⟩ := h.order C hl hn
  unfold asmRun
  rw [if_pos (by omega), Int.toNat_natCast, hf]
  unfold said
  rw [C.said]
end Go.Cap
