import Derived.Test.YtfanhpebfnbobaaEngC
import Derived.Test.YtfanhpebfnbobaaLawA
import Derived.Test.YtfanhpebfnbobaaPc
/- Parts that follow one another make groups; what an assembly gives of them, in order and in any order. -/
namespace Go.Cap
open Go Go.Proofs
set_option linter.unusedSimpArgs false
set_option linter.unusedVariables false

/-- The parts of a message that is still open. -/
structure PreG (g : List Data) : Prop where
  first : ∀ j (h : j < g.length), g[j].first = decide (j = 0)
  last : ∀ j (h : j + 1 < g.length), g[j].last = false
  like : ∀ j (h : j + 1 < g.length), likeB g[j + 1] g[j] = true
  tsn : ∀ j (h : j + 1 < g.length), g[j + 1].tsn = l3 g[j].tsn 1
theorem PreG.snoc {c : List Data} {d : Data} (h : PreG c) (hl : ∀ x ∈ c, x.last = false) (hf : d.first = decide (c.length = 0)) (hk : ∀ x, c.getLast? = some x → likeB d x = true ∧ d.tsn = l3 x.tsn 1) : PreG (c ++ [d]) := by
  have hlast : ∀ j (hj : j + 1 = c.length), c.getLast? = some (c[j]'(by omega)) := fun j hj => by
    rw [List.getLast?_eq_getElem?, List.getElem?_eq_getElem (by omega)]; congr 2; omega
  refine ⟨fun j hj => ?_, fun j hj => ?_, fun j hj => ?_, fun j hj => ?_⟩
  · rw [List.length_append, List.length_singleton] at hj
    rcases Nat.lt_or_ge j c.length with h1 | h1
    · rw [List.getElem_append_left h1]; exact h.first j h1
    · have : j = c.length := by omega
      subst this
      rw [List.getElem_concat_length rfl, hf]
  · rw [List.length_append, List.length_singleton] at hj
    rw [List.getElem_append_left (by omega)]; exact hl _ (List.getElem_mem _)
  · rw [List.length_append, List.length_singleton] at hj
    rcases Nat.lt_or_ge (j + 1) c.length with h1 | h1
    · rw [List.getElem_append_left h1, List.getElem_append_left (by omega)]; exact h.like j h1
    · have h2 : j + 1 = c.length := by omega
      rw [List.getElem_concat_length h2, List.getElem_append_left (by omega)]
      exact (hk _ (hlast j h2)).1
  · rw [List.length_append, List.length_singleton] at hj
    rcases Nat.lt_or_ge (j + 1) c.length with h1 | h1
    · rw [List.getElem_append_left h1, List.getElem_append_left (by omega)]; exact h.tsn j h1
    · have h2 : j + 1 = c.length := by omega
      rw [List.getElem_concat_length h2, List.getElem_append_left (by omega)]
      exact (hk _ (hlast j h2)).2
theorem PreG.close {c : List Data} {d : Data} (h : PreG (c ++ [d])) (hd : d.last = true) : Grp (c ++ [d]) := by
  refine ⟨by simp, h.first, fun j hj => ?_, h.like, h.tsn⟩
  by_cases h1 : j + 1 = (c ++ [d]).length
  · rw [decide_eq_true h1]
    rw [List.length_append, List.length_singleton] at h1
    have : j = c.length := by omega
    subst this
    rw [List.getElem_concat_length rfl]; exact hd
  · rw [decide_eq_false h1]; exact h.last j (by omega)
/-- Parts, cut into groups and what is still open. -/
structure Cut (P : List Data) (gs : List (List Data)) (cur : List Data) : Prop where
  eq : P = gs.flatten ++ cur
  grp : ∀ g ∈ gs, Grp g
  pre : PreG cur
  lst : ∀ x ∈ cur, x.last = false
  said : saidSt P = (gs.map msgG, cur.flatMap Data.text)
  rank : ∀ i (h : i < gs.length), (hd gs[i]).loose = false → (hd gs[i]).ssn = ((gs.take i).countP (ord (hd gs[i]).stream) : Nat)
  crank : cur ≠ [] → (hd cur).loose = false → (hd cur).ssn = (gs.countP (ord (hd cur).stream) : Nat)
  cnt : ∀ s, ssnIn P s = gs.countP (ord s) + (if cur ≠ [] ∧ ord s cur = true then 1 else 0)
theorem Cut.nil : Cut [] [] [] := ⟨rfl, fun g h => (List.not_mem_nil h).elim, ⟨fun j h => by simp at h, fun j h => by simp at h, fun j h => by simp at h, fun j h => by simp at h⟩, fun x h => (List.not_mem_nil h).elim, rfl, fun i h => by simp at h, fun h => absurd rfl h, fun s => by simp [ssnIn]⟩
theorem flat_last {gs : List (List Data)} (h : ∀ g ∈ gs, Grp g) {x : Data} (hx : gs.flatten.getLast? = some x) : x.last = true := by
  rcases gs.eq_nil_or_concat with rfl | ⟨g0, g, rfl⟩
  · simp at hx
  · rw [List.concat_eq_append] at h hx
    have hg := h g (by simp)
    rcases g.eq_nil_or_concat with rfl | ⟨c, y, rfl⟩
    · exact absurd rfl hg.ne
    · rw [List.concat_eq_append] at hx hg
      rw [List.flatten_append, List.flatten_singleton, ← List.append_assoc, List.getLast?_concat] at hx
      cases hx
      have := hg.last c.length (by simp)
      rw [List.getElem_concat_length rfl] at this
      rw [this]; simp
theorem hd_app {c : List Data} {d : Data} (h : c ≠ []) : hd (c ++ [d]) = hd c := by cases c with
  | nil => exact absurd rfl h
  | cons a l => rfl
theorem Cut.next {P : List Data} {gs : List (List Data)} {cur : List Data} {d : Data} (h : Cut P gs cur) (hm : mayB P d = true) (ht : ∀ x, P.getLast? = some x → d.tsn = l3 x.tsn 1) : ∃ gs' cur', Cut (P ++ [d]) gs' cur' := by
  -- what is known of the part that comes
  have hnew : cur = [] → d.first = true ∧ (d.loose = true ∨ d.ssn = (ssnIn P d.stream : Nat)) := fun hc => by
    have hP : P = gs.flatten := by rw [h.eq, hc, List.append_nil]
    unfold mayB at hm
    cases hx : P.getLast? with
    | none => rw [hx] at hm; simpa using hm
    | some x =>
      rw [hx] at hm
      have := flat_last h.grp (hP ▸ hx)
      simp only [this, if_true] at hm
      simpa using hm
  have hold : ∀ x, cur.getLast? = some x → d.first = false ∧ likeB d x = true ∧ d.tsn = l3 x.tsn 1 := fun x hx => by
    have hP : P.getLast? = some x := by rw [h.eq, List.getLast?_append, hx]; rfl
    have hxl := h.lst x (List.mem_of_getLast? hx)
    unfold mayB at hm
    rw [hP] at hm
    simp only [hxl, Bool.false_eq_true, if_false, Bool.and_eq_true, Bool.not_eq_true'] at hm
    exact ⟨hm.1, hm.2, ht x hP⟩
  have hfirst : d.first = decide (cur.length = 0) := by
    by_cases hc : cur = []
    · rw [(hnew hc).1, hc]; rfl
    · obtain ⟨x, hx⟩ : ∃ x, cur.getLast? = some x := by cases hg : cur.getLast? with
        | none => exact absurd (List.getLast?_eq_none_iff.1 hg) hc
        | some x => exact ⟨x, rfl⟩
      rw [(hold x hx).1, decide_eq_false (fun e => hc (List.eq_nil_of_length_eq_zero e))]
  have hpre : PreG (cur ++ [d]) := h.pre.snoc h.lst hfirst fun x hx => (hold x hx).2
  have hhd : hd (cur ++ [d]) = if cur = [] then d else hd cur := by
    split
    · rename_i hc; rw [hc]; rfl
    · rename_i hc; exact hd_app hc
  have hrk : (hd (cur ++ [d])).loose = false → (hd (cur ++ [d])).ssn = (gs.countP (ord (hd (cur ++ [d])).stream) : Nat) := by
    by_cases hc : cur = []
    · rw [hhd, if_pos hc]
      intro hl
      rcases (hnew hc).2 with h1 | h1
      · rw [h1] at hl; cases hl
      · rw [h1, h.cnt, hc]; simp
    · rw [hhd, if_neg hc]; exact h.crank hc
  have hcnt : ∀ s, ssnIn (P ++ [d]) s = gs.countP (ord s) + (if ord s (cur ++ [d]) = true then 1 else 0) := fun s => by
    rw [ssnIn_app, h.cnt s]
    by_cases hc : cur = []
    · have h1 := (hnew hc).1
      subst hc
      simp [ssnIn, ord, h1, hd, List.countP_cons]
    · have h1 : d.first = false := by rw [hfirst, decide_eq_false (fun e => hc (List.eq_nil_of_length_eq_zero e))]
      have h2 : ord s (cur ++ [d]) = ord s cur := by unfold ord; rw [hd_app hc]
      rw [h2]
      simp [ssnIn, h1, hc, List.countP_cons]
  have htxt : (cur ++ [d]).flatMap Data.text = cur.flatMap Data.text ++ d.text := by simp
  by_cases hdl : d.last = true
  · have hg := hpre.close hdl
    obtain ⟨k1, k2, k3⟩ := like_mem hg (d := d) (by simp)
    refine ⟨gs ++ [cur ++ [d]], [], ?_⟩
    refine ⟨by rw [h.eq]; simp, fun g hgm => ?_, Cut.nil.pre, fun x hx => (List.not_mem_nil hx).elim, ?_, fun i hi => ?_, fun hx => absurd rfl hx, fun s => ?_⟩
    · rcases List.mem_append.1 hgm with hgm | hgm
      · exact h.grp g hgm
      · simp only [List.mem_singleton] at hgm; subst hgm; exact hg
    · rw [saidSt_app, h.said]
      simp only [List.foldl_cons, List.foldl_nil, saidStep, hdl, if_true, List.map_append, List.map_cons, List.map_nil, List.flatMap_nil]
      unfold msgG
      rw [← k1, ← k2, ← k3, htxt]
    · rw [List.length_append, List.length_singleton] at hi
      rcases Nat.lt_or_ge i gs.length with h1 | h1
      · rw [List.getElem_append_left h1, List.take_append_of_le_length (by omega)]; exact h.rank i h1
      · have : i = gs.length := by omega
        subst this
        rw [List.getElem_concat_length rfl, List.take_left]
        exact hrk
    · rw [hcnt, List.countP_append, List.countP_cons, List.countP_nil]; simp
  · have hdl' : d.last = false := by simpa using hdl
    refine ⟨gs, cur ++ [d], ?_⟩
    refine ⟨by rw [h.eq, List.append_assoc], h.grp, hpre, fun x hx => ?_, ?_, h.rank, fun _ => hrk, fun s => ?_⟩
    · rcases List.mem_append.1 hx with hx | hx
      · exact h.lst x hx
      · simp only [List.mem_singleton] at hx; subst hx; exact hdl'
    · rw [saidSt_app, h.said]
      simp only [List.foldl_cons, List.foldl_nil, saidStep, hdl', Bool.false_eq_true, if_false, htxt]
    · rw [hcnt]; simp
/-- Parts of a side: numbered, each one may follow the ones ahead of it. -/
def SeqP (f : Int) (n : Nat) (P : List Data) : Prop := ∀ i (hi : i < P.length), dataB P[i] = true ∧ P[i].tsn = l3 f i ∧ P[i].stream < n ∧ mayB (P.take i) P[i] = true
theorem SeqP.cut {f : Int} {n : Nat} {P : List Data} (h : SeqP f n P) : ∃ gs cur, Cut P gs cur := by
  have key : ∀ i, i ≤ P.length → ∃ gs cur, Cut (P.take i) gs cur := by
    intro i
    induction i with
    | zero => intro _; exact ⟨[], [], by rw [List.take_zero]; exact Cut.nil⟩
    | succ i ih =>
      intro hi
      obtain ⟨gs, cur, hc⟩ := ih (by omega)
      have hil : i < P.length := by omega
      rw [take_get hil]
      refine hc.next (h i hil).2.2.2 fun x hx => ?_
      have hlen : (P.take i).length = i := by rw [List.length_take]; omega
      rw [List.getLast?_eq_getElem?, hlen] at hx
      rcases Nat.eq_zero_or_pos i with h0 | h0
      · subst h0; simp at hx
      · rw [List.getElem?_take_of_lt (by omega), List.getElem?_eq_getElem (by omega)] at hx
        cases hx
        rw [(h i hil).2.1, (h (i - 1) (by omega)).2.1, l3_l3]
        congr 1; omega
  have := key P.length (Nat.le_refl _)
  rwa [List.take_length] at this
theorem grps_of {gs : List (List Data)} {f : Int} (hg : ∀ g ∈ gs, Grp g) (ht : ∀ j (h : j < gs.flatten.length), gs.flatten[j].tsn = l3 f j) (hl : gs.flatten.length ≤ 13)
    (hr : ∀ i (h : i < gs.length), (hd gs[i]).loose = false → (hd gs[i]).ssn = ((gs.take i).countP (ord (hd gs[i]).stream) : Nat)) : Grps gs := by
  refine ⟨hg, fun d hd e he hde => ?_, ?_, fun d hd => ?_, hr⟩
  · obtain ⟨i, hi, rfl⟩ := List.getElem_of_mem hd
    obtain ⟨j, hj, rfl⟩ := List.getElem_of_mem he
    rw [ht i hi, ht j hj] at hde
    have := l3_inj (by omega) (by omega) hde
    subst this; rfl
  · refine List.pairwise_iff_getElem.2 fun i j hi hj hij e => ?_
    have h1 := ht i hi
    rw [e, ht j hj] at h1
    have := l3_inj (by omega) (by omega) h1
    omega
  · obtain ⟨i, hi, rfl⟩ := List.getElem_of_mem hd
    rw [ht i hi]; exact l3_range f i
theorem SeqP.str {f : Int} {n : Nat} {P : List Data} (h : SeqP f n P) : ∀ d ∈ P, 0 ≤ d.stream ∧ d.stream < n := fun d hd => by
  obtain ⟨i, hi, rfl⟩ := List.getElem_of_mem hd
  exact ⟨(data_ok (h i hi).1).2.1.1, (h i hi).2.2.1⟩
theorem SeqP.ok {f : Int} {n : Nat} {P : List Data} (h : SeqP f n P) : ∀ d ∈ P, dataB d = true := fun d hd => by
  obtain ⟨i, hi, rfl⟩ := List.getElem_of_mem hd
  exact (h i hi).1
theorem groups_len {gs : List (List Data)} (h : ∀ g ∈ gs, Grp g) : gs.length ≤ gs.flatten.length := by
  induction gs with
  | nil => simp
  | cons g gs ih =>
    have h1 := ih fun x hx => h x (List.mem_cons_of_mem _ hx)
    have h2 := List.length_pos_iff.2 (h g (List.mem_cons_self ..)).ne
    rw [List.flatten_cons, List.length_append, List.length_cons]; omega
/-- What is open is closed by a part that never comes. -/
theorem SeqP.base {f : Int} {n : Nat} {P : List Data} {gs : List (List Data)} {cur : List Data} (h : SeqP f n P) (C : Cut P gs cur) (hl : P.length ≤ 12) (hn : 1 ≤ n ∧ n ≤ 4) :
    ∃ ge, Base ge n ∧ (∀ d ∈ P, d ∈ ge.flatten) ∧ P.Nodup ∧ (ge = gs ∧ cur = [] ∨ ∃ e, ge = gs ++ [cur ++ [e]] ∧ e ∉ P ∧ cur ≠ []) := by
  by_cases hc : cur = []
  · have hP : P = gs.flatten := by rw [C.eq, hc, List.append_nil]
    have G : Grps gs := grps_of C.grp (f := f) (by rw [← hP]; exact fun j hj => (h j hj).2.1) (by rw [← hP]; omega) C.rank
    refine ⟨gs, ⟨G, hn, ?_, by rw [← hP]; exact h.str⟩, fun d hd => hP ▸ hd, hP ▸ G.nd, .inl ⟨rfl, hc⟩⟩
    have := groups_len C.grp
    rw [← hP] at this; omega
  · obtain ⟨x, hx⟩ : ∃ x, cur.getLast? = some x := by cases hg : cur.getLast? with
      | none => exact absurd (List.getLast?_eq_none_iff.1 hg) hc
      | some x => exact ⟨x, rfl⟩
    have hxm := List.mem_of_getLast? hx
    have hpos : 0 < cur.length := List.length_pos_iff.2 hc
    have hPl : P.length = gs.flatten.length + cur.length := by rw [C.eq, List.length_append]
    have hxt : x.tsn = l3 f (P.length - 1 : Nat) := by
      have h1 : P.getLast? = some x := by rw [C.eq, List.getLast?_append, hx]; rfl
      rw [List.getLast?_eq_getElem?, List.getElem?_eq_getElem (by omega)] at h1
      cases h1
      exact (h _ _).2.1
    let e : Data := ⟨l3 f P.length, x.stream, x.ssn, false, true, x.loose, []⟩
    have hpre : PreG (cur ++ [e]) := C.pre.snoc C.lst (by rw [decide_eq_false (by omega)]) fun y hy => by
      rw [hx] at hy; cases hy
      refine ⟨by simp [likeB, e], ?_⟩
      show l3 f P.length = _
      rw [hxt, l3_l3]; congr 1; omega
    have hge : (gs ++ [cur ++ [e]]).flatten = P ++ [e] := by rw [C.eq]; simp
    have htsn : ∀ j (hj : j < (P ++ [e]).length), (P ++ [e])[j].tsn = l3 f j := fun j hj => by
      rw [List.length_append, List.length_singleton] at hj
      rcases Nat.lt_or_ge j P.length with h1 | h1
      · rw [List.getElem_append_left h1]; exact (h j h1).2.1
      · have : j = P.length := by omega
        subst this
        rw [List.getElem_concat_length rfl]
    have hgrp : ∀ g ∈ gs ++ [cur ++ [e]], Grp g := fun g hg => by
      rcases List.mem_append.1 hg with hg | hg
      · exact C.grp g hg
      · simp only [List.mem_singleton] at hg; subst hg; exact hpre.close rfl
    have G : Grps (gs ++ [cur ++ [e]]) := grps_of hgrp (f := f) (by rw [hge]; exact htsn) (by rw [hge]; simp; omega) fun i hi => by
      rw [List.length_append, List.length_singleton] at hi
      rcases Nat.lt_or_ge i gs.length with h1 | h1
      · rw [List.getElem_append_left h1, List.take_append_of_le_length (by omega)]; exact C.rank i h1
      · have : i = gs.length := by omega
        subst this
        rw [List.getElem_concat_length rfl, List.take_left, hd_app hc]
        exact C.crank hc
    have hnd := G.nd
    rw [hge] at hnd
    refine ⟨gs ++ [cur ++ [e]], ⟨G, hn, ?_, ?_⟩, fun d hd => by rw [hge]; exact List.mem_append_left _ hd, (List.nodup_append.1 hnd).1, .inr ⟨e, rfl, fun he => absurd rfl ((List.nodup_append.1 hnd).2.2 e he e (by simp)), hc⟩⟩
    · have := groups_len hgrp
      rw [hge] at this
      have h2 : (P ++ [e]).length ≤ 13 := by rw [List.length_append, List.length_singleton]; omega
      omega
    · rw [hge]
      intro d hd
      rcases List.mem_append.1 hd with hd | hd
      · exact h.str d hd
      · simp only [List.mem_singleton] at hd
        subst hd
        have : x ∈ P := by rw [C.eq]; exact List.mem_append_right _ hxm
        exact h.str x this
theorem only_one {α : Type} {l : List α} {y : α} (hn : l.Nodup) (h : ∀ x ∈ l, x = y) (hy : y ∈ l) : l = [y] := by
  cases l with
  | nil => cases hy
  | cons a l =>
    have ha := h a (List.mem_cons_self ..)
    subst ha
    cases l with
    | nil => rfl
    | cons b l =>
      have hb := h b (by simp)
      subst hb
      simp at hn
/-- In order, each group is told when its last part comes. -/
theorem SeqP.order {f : Int} {n : Nat} {P : List Data} {gs : List (List Data)} {cur : List Data} (h : SeqP f n P) (C : Cut P gs cur) (hl : P.length ≤ 12) (hn : 1 ≤ n ∧ n ≤ 4) :
    ∃ ge a, Base ge n ∧ AInv ge n P a (gs.map msgG) gs ∧ P.foldl asmStep (asmNew n, []) = (a, gs.map msgG) ∧ Sub ge P ∧ (cur = [] → ge = gs) := by
  obtain ⟨ge, B, hsub, hPn, hge⟩ := h.base C hl hn
  have hgl : gs.length ≤ ge.length := by rcases hge with ⟨e, _⟩ | ⟨e, he, _, _⟩ <;> simp [*]
  have hget : ∀ i (hi : i < gs.length), ge[i]'(by omega) = gs[i] := fun i hi => by
    rcases hge with ⟨e, _⟩ | ⟨e, he, _, _⟩
    · subst e; rfl
    · subst he; exact List.getElem_append_left hi
  have hmem : ∀ g ∈ gs, g ∈ ge := fun g hg => by
    obtain ⟨i, hi, rfl⟩ := List.getElem_of_mem hg
    rw [← hget i hi]; exact List.getElem_mem _
  have hgn : gs.Nodup := by
    have := B.G.nodup
    rcases hge with ⟨e, _⟩ | ⟨e, he, _, _⟩
    · exact e ▸ this
    · rw [he] at this; exact (List.nodup_append.1 this).1
  have hAP : Sub ge P := ⟨hsub, hPn⟩
  have hdue0 : due (asmNew n) = none := rfl
  have hpfx : ∀ m, m ≤ gs.length → ∃ more, P = (gs.take m).flatten ++ more := fun m hm => by
    refine ⟨(gs.drop m).flatten ++ cur, ?_⟩
    rw [← List.append_assoc, ← List.flatten_append, List.take_append_drop]; exact C.eq
  have key : ∀ m, m ≤ gs.length → ∃ a, AInv ge n (gs.take m).flatten a ((gs.take m).map msgG) (gs.take m) ∧ due a = none ∧ (gs.take m).flatten.foldl asmStep (asmNew n, []) = (a, (gs.take m).map msgG) := by
    intro m
    induction m with
    | zero => intro _; exact ⟨asmNew n, AInv.start ge n, hdue0, rfl⟩
    | succ m ih =>
      intro hm
      obtain ⟨a, I, hd0, hf⟩ := ih (by omega)
      have hml : m < gs.length := by omega
      have htk : (gs.take (m + 1)).flatten = (gs.take m).flatten ++ gs[m] := by rw [take_get hml, List.flatten_append, List.flatten_singleton]
      obtain ⟨more, hP⟩ := hpfx (m + 1) hm
      have A : Sub ge ((gs.take m).flatten ++ gs[m]) := by rw [← htk]; rw [hP] at hAP; exact hAP.left
      have hlen : ((gs.take m).flatten ++ gs[m]).length ≤ 12 := by rw [← htk]; have := congrArg List.length hP; rw [List.length_append] at this; omega
      obtain ⟨T', I', hd'⟩ := I.run B gs[m] _ _ _ _ A hd0 hlen fun x hx => h.ok x (by rw [hP, htk]; exact List.mem_append_left _ hx)
      have hT' : T' = [gs[m]] := by
        have hnd := List.nodup_append.1 I'.nd
        refine only_one hnd.2.1 (fun t ht => ?_) ?_
        · have htg := I'.sub t (List.mem_append_right _ ht)
          have hm0 := hd_mem (B.G.grp t htg).ne
          have := I'.in_ t (List.mem_append_right _ ht) _ hm0
          rcases List.mem_append.1 this with h1 | h1
          · obtain ⟨g, hg, hgd⟩ := List.mem_flatten.1 h1
            have := B.G.same htg (I.sub g hg) hm0 hgd
            subst this
            exact absurd rfl (hnd.2.2 t hg t ht)
          · exact B.G.same htg (hmem _ (List.getElem_mem hml)) hm0 h1
        · have := I'.whole B A hd' m (by omega) fun j hj d hdm => by
            rw [hget j (by omega)] at hdm
            rw [← htk]
            exact Grps.mem (List.mem_take_iff_getElem.2 ⟨j, by omega, rfl⟩) hdm
          rw [hget m hml] at this
          rcases List.mem_append.1 this with h1 | h1
          · obtain ⟨j, hj, hj2⟩ := List.mem_take_iff_getElem.1 h1
            have := nd_inj hgn (i := j) (j := m) (by omega) hml hj2
            omega
          · exact h1
      have hms : (gs[m].foldl asmStep (a, (gs.take m).map msgG)).2 = (gs.take (m + 1)).map msgG := by
        rw [I'.ms, hT', take_get hml]
      refine ⟨(gs[m].foldl asmStep (a, (gs.take m).map msgG)).1, ?_, hd', ?_⟩
      · rw [hT', hms, ← htk, ← take_get hml] at I'; exact I'
      · rw [htk, List.foldl_append, hf, ← hms]
  obtain ⟨a, I, hd0, hf⟩ := key gs.length (Nat.le_refl _)
  rw [List.take_length] at I hf
  have hPe := C.eq
  obtain ⟨T', I', hd'⟩ := I.run B cur _ _ _ _ (hPe ▸ hAP) hd0 (hPe ▸ hl) (hPe ▸ h.ok)
  have hT' : T' = [] := by
    cases hT : T' with
    | nil => rfl
    | cons t T2 =>
      exfalso
      have ht : t ∈ T' := by rw [hT]; simp
      have hnd := List.nodup_append.1 I'.nd
      have htg := I'.sub t (List.mem_append_right _ ht)
      have hm0 := hd_mem (B.G.grp t htg).ne
      have hin := I'.in_ t (List.mem_append_right _ ht)
      rcases hge with ⟨e, hc⟩ | ⟨e, he, heP, hcn⟩
      · subst e
        exact absurd rfl (hnd.2.2 t htg t ht)
      · rw [he] at htg
        rcases List.mem_append.1 htg with h1 | h1
        · exact absurd rfl (hnd.2.2 t h1 t ht)
        · simp only [List.mem_singleton] at h1
          have := hin e (by rw [h1]; simp)
          rw [← hPe] at this
          exact heP this
  refine ⟨ge, (cur.foldl asmStep (a, gs.map msgG)).1, B, ?_, ?_, hAP, ?_⟩
  · have hms2 := I'.ms
    rw [hT', List.append_nil] at hms2
    rw [hms2, hT', List.append_nil, ← hPe] at I'; exact I'
  · have hms : (cur.foldl asmStep (a, gs.map msgG)).2 = gs.map msgG := by rw [I'.ms, hT', List.append_nil]
    conv => lhs; rw [hPe, List.foldl_append, hf]
    exact Prod.ext rfl hms
  · intro hc
    rcases hge with ⟨e, _⟩ | ⟨e, he, heP, hcn⟩
    · exact e
    · exact absurd hc hcn
theorem SeqP.run {f : Int} {n : Nat} {P : List Data} (h : SeqP f n P) (hl : P.length ≤ 12) (hn : 1 ≤ n ∧ n ≤ 4) : asmRun n P = said P := by
  obtain ⟨gs, cur, C⟩ := h.cut
  obtain ⟨ge, a, B, I, hf, _, _⟩ := h.order C hl hn
  unfold asmRun
  rw [if_pos (by omega), Int.toNat_natCast, hf]
  unfold said
  rw [C.said]
/-- The ordered messages of a stream. -/
def ofStr (s : Int) (ms : List Msg) : List Msg := ms.filter fun m => m.stream == s && !m.loose
theorem ofStr_map (s : Int) (gs : List (List Data)) : ofStr s (gs.map msgG) = (gs.filter (ord s)).map msgG := by
  unfold ofStr
  rw [List.filter_map]
  congr 2
  funext g
  simp only [Function.comp, msgG, ord]
  exact Bool.and_comm _ _
/-- In any order: the same ordered messages in each stream, and as many messages. -/
theorem SeqP.any {f : Int} {n : Nat} {P Q : List Data} (h : SeqP f n P) (hl : P.length ≤ 12) (hn : 1 ≤ n ∧ n ≤ 4) (hlast : ∀ x, P.getLast? = some x → x.last = true) (hQ : Q.Perm P) :
    (asmRun n Q).length = (said P).length ∧ ∀ s, ofStr s (asmRun n Q) = ofStr s (said P) := by
  obtain ⟨gs, cur, C⟩ := h.cut
  have hc : cur = [] := by
    cases hg : cur.getLast? with
    | none => exact List.getLast?_eq_none_iff.1 hg
    | some x =>
      have hP : P.getLast? = some x := by rw [C.eq, List.getLast?_append, hg]; rfl
      have h1 := hlast x hP
      rw [C.lst x (List.mem_of_getLast? hg)] at h1; cases h1
  obtain ⟨ge, a, B, I, hf, hAP, hge⟩ := h.order C hl hn
  have hge := hge hc
  subst hge
  have hP : P = ge.flatten := by rw [C.eq, hc, List.append_nil]
  have AQ : Sub ge ([] ++ Q) := ⟨fun d hd => hAP.mem d (hQ.mem_iff.1 hd), hQ.nodup_iff.2 hAP.nd⟩
  have hlQ : ([] ++ Q).length ≤ 12 := by rw [List.nil_append, hQ.length_eq]; exact hl
  obtain ⟨T, IQ, hdQ⟩ := (AInv.start ge n).run B Q [] _ _ _ AQ rfl hlQ fun x hx => h.ok x (hQ.mem_iff.1 hx)
  rw [List.nil_append] at IQ AQ
  rw [List.nil_append] at IQ
  have hall : ∀ g ∈ ge, g ∈ T := fun g hg => by
    obtain ⟨i, hi, rfl⟩ := List.getElem_of_mem hg
    exact IQ.whole B AQ hdQ i hi fun j hj d hdm => hQ.mem_iff.2 (hP ▸ Grps.mem (List.getElem_mem _) hdm)
  have hrun : asmRun n Q = T.map msgG := by
    unfold asmRun
    rw [if_pos (by omega), Int.toNat_natCast, IQ.ms]
  have hsaid : said P = ge.map msgG := by unfold said; rw [C.said]
  have hlen : ∀ p : List Data → Bool, (T.filter p).length = (ge.filter p).length := fun p => by
    apply Nat.le_antisymm
    · refine List.Nodup.length_le_of_subset (IQ.nd.filter _) fun g hg => ?_
      rw [List.mem_filter] at hg ⊢; exact ⟨IQ.sub g hg.1, hg.2⟩
    · refine List.Nodup.length_le_of_subset (I.nd.filter _) fun g hg => ?_
      rw [List.mem_filter] at hg ⊢; exact ⟨hall g hg.1, hg.2⟩
  rw [hrun, hsaid]
  refine ⟨?_, fun s => ?_⟩
  · have := hlen fun _ => true
    rw [List.filter_eq_self.2 (fun _ _ => rfl), List.filter_eq_self.2 (fun _ _ => rfl)] at this
    simpa using this
  · rw [ofStr_map, ofStr_map]
    congr 1
    refine List.ext_getElem (hlen _) fun i h1 h2 => ?_
    have r1 := IQ.rk i s h1
    have r2 := I.rk i s h2
    have m1 := List.mem_filter.1 (List.getElem_mem h1)
    have m2 := List.mem_filter.1 (List.getElem_mem h2)
    generalize (T.filter (ord s))[i] = x at r1 m1
    generalize (ge.filter (ord s))[i] = y at r2 m2
    obtain ⟨j, hj, rfl⟩ := List.getElem_of_mem (IQ.sub x m1.1)
    obtain ⟨k, hk, rfl⟩ := List.getElem_of_mem m2.1
    have o1 := m1.2
    have o2 := m2.2
    simp only [ord, Bool.and_eq_true, Bool.not_eq_true', beq_iff_eq] at o1 o2
    rw [B.G.rank j hj o1.1, o1.2] at r1
    rw [B.G.rank k hk o2.1, o2.2] at r2
    have := B.G.rank_inj hj hk m1.2 m2.2 (by omega)
    subst this; rfl
end Go.Cap

/- The parts of a talk are a side's. -/
namespace Go.Cap
open Go Go.Proofs
set_option linter.unusedSimpArgs false
set_option linter.unusedVariables false

/-- The parts of a talk, in any order. -/
theorem talk_seq {t : Talk} (hv : talkB t = true) (byB : Bool) : ∃ n : Nat, (t.init byB).streams = n ∧ (1 ≤ n ∧ n ≤ 4) ∧ SeqP (t.init byB).tsn n (talkParts t byB) ∧ ∀ x, (talkParts t byB).getLast? = some x → x.last = true := by
  have hi := init_ok hv byB
  have hf := talk_fit hv byB
  simp only [initB, Bool.and_eq_true, decide_eq_true_eq] at hi
  obtain ⟨⟨⟨i1, i2, i3, i4⟩, _⟩, i6⟩ := hi
  refine ⟨(t.init byB).streams.toNat, by omega, by omega, fun i h => ?_, hf.last⟩
  obtain ⟨k1, k2, k3, k4⟩ := hf.ok i h
  exact ⟨k1, k2, by omega, k4⟩
end Go.Cap

/- Plain facts: the parts of a talk in the order in which they are said; the packets of a talk. -/
namespace Go.Cap
open Go Go.Proofs
set_option linter.unusedSimpArgs false
set_option linter.unusedVariables false

def sideL (b : Bool) (l : List (Bool × Data)) : List Data := (l.filter fun x => x.1 == b).map (·.2)
theorem sideL_app (b : Bool) (x y : List (Bool × Data)) : sideL b (x ++ y) = sideL b x ++ sideL b y := by simp [sideL]
theorem sideL_same (b : Bool) (l : List Data) : sideL b (l.map fun d => (b, d)) = l := by
  unfold sideL
  induction l with
  | nil => rfl
  | cons d l ih => simp at ih ⊢; exact ih
theorem sideL_other {b c : Bool} (h : c ≠ b) (l : List Data) : sideL b (l.map fun d => (c, d)) = [] := by
  unfold sideL
  induction l with
  | nil => rfl
  | cons d l ih => simp [h]
theorem talkAll_side (z : Nat) (ta tb : Int) : ∀ (l : List Say) (oa ob : List Data), partsAcc z ta false l oa = oa ++ sideL false (talkAll z ta tb l oa ob) ∧ partsAcc z tb true l ob = ob ++ sideL true (talkAll z ta tb l oa ob)
  | [], oa, ob => by simp [partsAcc, talkAll, sideL]
  | s :: l, oa, ob => by
    simp only [partsAcc, talkAll]
    cases hb : s.byB
    · obtain ⟨h1, h2⟩ := talkAll_side z ta tb l (oa ++ nextParts z ta oa s) ob
      simp only [Bool.false_eq_true, if_false, if_true, sideL_app, sideL_same, sideL_other (show (false : Bool) ≠ true by decide), List.nil_append]
      exact ⟨by rw [h1, List.append_assoc], by first | exact h2 | (rw [if_neg (by decide)]; exact h2)⟩
    · obtain ⟨h1, h2⟩ := talkAll_side z ta tb l oa (ob ++ nextParts z tb ob s)
      simp only [Bool.true_eq_false, if_false, if_true, sideL_app, sideL_same, sideL_other (show (true : Bool) ≠ false by decide), List.nil_append]
      exact ⟨by first | exact h1 | (rw [if_neg (by decide)]; exact h1), by rw [h2, List.append_assoc]⟩
theorem talk_side {t : Talk} (hv : talkB t = true) (b : Bool) : sideL b t.all = talkParts t b := by
  obtain ⟨h1, h2⟩ := talkAll_side t.size.toNat t.a.tsn t.b.tsn t.says [] []
  unfold talkParts Talk.all
  rw [if_pos hv]
  cases b
  · rw [show t.tsn false = t.a.tsn from rfl, h1]; rfl
  · rw [show t.tsn true = t.b.tsn from rfl, h2]; rfl
theorem sides_len : ∀ (l : List (Bool × Data)), l.length = (sideL false l).length + (sideL true l).length
  | [] => rfl
  | (b, d) :: l => by
    have := sides_len l
    cases b <;> simp [sideL] at this ⊢ <;> omega
theorem saysPk_len (t : Talk) (l : List (Bool × Data)) : (saysPk t l).length = 2 * l.length := by
  induction l with
  | nil => rfl
  | cons x l ih =>
    have : saysPk t (x :: l) = [onePk t x.1 (dataPut x.2), onePk t (!x.1) (sackPut ⟨x.2.tsn, []⟩)] ++ saysPk t l := by simp [saysPk]
    rw [this, List.length_append, ih]; simp; omega
theorem talkPk_len {t : Talk} (hv : talkB t = true) : (talkPk t).length = 7 + 2 * (talkParts t false).length + 2 * (talkParts t true).length := by
  unfold talkPk
  rw [if_pos hv]
  simp only [List.length_append, saysPk_len, hello, bye, List.length_cons, List.length_nil]
  rw [sides_len t.all, talk_side hv, talk_side hv]
  omega
theorem talkAll_mem {t : Talk} (hv : talkB t = true) {x : Bool × Data} (h : x ∈ t.all) : x.2 ∈ talkParts t x.1 := by
  rw [← talk_side hv]
  unfold sideL
  exact List.mem_map.2 ⟨x, List.mem_filter.2 ⟨h, by simp⟩, rfl⟩
theorem talkAll_data {t : Talk} (hv : talkB t = true) {x : Bool × Data} (h : x ∈ t.all) : dataB x.2 = true := by
  obtain ⟨n, en, hn, hseq, _⟩ := talk_seq hv x.1
  exact hseq.ok _ (talkAll_mem hv h)
/-- Packets with one chunk. -/
theorem dataPut_ok {d : Data} (h : dataB d = true) : chunkB (dataPut d) = true := by
  have := (data_ok h).2.2.2
  unfold chunkB dataPut inB bit word
  cases d.last <;> cases d.first <;> cases d.loose <;> simp <;> omega
theorem initPut_ok (x : Init) (b : Bool) : chunkB (initPut x b) = true := by
  unfold chunkB initPut inB long word
  cases b <;> simp
theorem sackPut_ok (n : Int) : chunkB (sackPut ⟨n, []⟩) = true := by
  unfold chunkB sackPut inB word; simp
theorem kind_ok {k : Int} (h : 0 ≤ k ∧ k ≤ 255) : chunkB ⟨k, 0, []⟩ = true := by
  unfold chunkB inB; simp; omega
theorem talk_head {t : Talk} (hv : talkB t = true) : (1 ≤ t.fr ∧ t.fr ≤ 65535) ∧ (1 ≤ t.to ∧ t.to ≤ 65535) ∧ t.fr ≠ t.to ∧ (1 ≤ t.a.tag ∧ t.a.tag ≤ 4294967295) ∧ (1 ≤ t.b.tag ∧ t.b.tag ≤ 4294967295) := by
  simp only [talkB, talkHead, inB, initB, serialB, Bool.and_eq_true, decide_eq_true_eq, bne_iff_ne, Bool.not_eq_true', decide_eq_false_iff_not, beq_eq_false_iff_ne] at hv
  omega
theorem one_ok {t : Talk} (hv : talkB t = true) (b : Bool) {c : Chunk} (hc : chunkB c = true) : packB (onePk t b c) = true := by
  obtain ⟨h1, h2, h3, h4, h5⟩ := talk_head hv
  unfold packB onePk inB
  cases b <;> simp [hc] <;> omega
end Go.Cap
namespace Go.Cap
/-- The parts of the first says are the first parts. -/
theorem talkAll_app (z : Nat) (ta tb : Int) : ∀ (l1 l2 : List Say) (oa ob : List Data), talkAll z ta tb (l1 ++ l2) oa ob = talkAll z ta tb l1 oa ob ++ talkAll z ta tb l2 (oa ++ sideL false (talkAll z ta tb l1 oa ob)) (ob ++ sideL true (talkAll z ta tb l1 oa ob))
  | [], l2, oa, ob => by simp [talkAll, sideL]
  | s :: l, l2, oa, ob => by
    simp only [List.cons_append, talkAll]
    cases hb : s.byB
    · simp only [Bool.false_eq_true, if_false, sideL_app, sideL_same, sideL_other (show (false : Bool) ≠ true by decide), List.nil_append]
      rw [talkAll_app z ta tb l l2, List.append_assoc, List.append_assoc]
    · simp only [if_true, sideL_app, sideL_same, sideL_other (show (true : Bool) ≠ false by decide), List.nil_append]
      rw [talkAll_app z ta tb l l2, List.append_assoc, List.append_assoc]
def Talk.q (t : Talk) (i : Nat) : Nat := (talkAll t.size.toNat t.a.tsn t.b.tsn (t.says.take i) [] []).length
theorem talk_q {t : Talk} {i : Nat} (h : i < t.says.length) : t.q (i + 1) = t.q i + manyN t.says[i].text.length t.size.toNat ∧ ∀ k (hk : k < t.all.length), t.q i ≤ k → k < t.q (i + 1) → (t.all[k]).1 = t.says[i].byB := by
  have e1 : t.says.take (i + 1) = t.says.take i ++ [t.says[i]] := take_get h
  have hstep := talkAll_app t.size.toNat t.a.tsn t.b.tsn (t.says.take i) [t.says[i]] [] []
  rw [← e1] at hstep
  have hone : ∀ oa ob, ∃ ps : List Data, ps.length = manyN t.says[i].text.length t.size.toNat ∧ talkAll t.size.toNat t.a.tsn t.b.tsn [t.says[i]] oa ob = ps.map fun d => (t.says[i].byB, d) := fun oa ob => by
    simp only [talkAll]
    cases hb : t.says[i].byB
    · exact ⟨nextParts t.size.toNat t.a.tsn oa t.says[i], nextParts_len _ _ _ _, by simp⟩
    · exact ⟨nextParts t.size.toNat t.b.tsn ob t.says[i], nextParts_len _ _ _ _, by simp⟩
  obtain ⟨ps, hps, hpe⟩ := hone ([] ++ sideL false (talkAll t.size.toNat t.a.tsn t.b.tsn (t.says.take i) [] [])) ([] ++ sideL true (talkAll t.size.toNat t.a.tsn t.b.tsn (t.says.take i) [] []))
  rw [hpe] at hstep
  refine ⟨by unfold Talk.q; rw [hstep, List.length_append, List.length_map, hps], fun k hk h1 h2 => ?_⟩
  have hall : ∃ rest, t.all = talkAll t.size.toNat t.a.tsn t.b.tsn (t.says.take i) [] [] ++ (ps.map fun d => (t.says[i].byB, d)) ++ rest := by
    have := talkAll_app t.size.toNat t.a.tsn t.b.tsn (t.says.take (i + 1)) (t.says.drop (i + 1)) [] []
    rw [List.take_append_drop, hstep] at this
    exact ⟨_, this⟩
  obtain ⟨rest, hr⟩ := hall
  have hq : t.q i = (talkAll t.size.toNat t.a.tsn t.b.tsn (t.says.take i) [] []).length := rfl
  have hq2 : t.q (i + 1) = t.q i + ps.length := by unfold Talk.q; rw [hstep, List.length_append, List.length_map]
  have : t.all[k]? = some ((ps[k - t.q i]'(by omega)) |> fun d => (t.says[i].byB, d)) := by
    rw [hr, List.getElem?_append_left (by rw [List.length_append, List.length_map]; omega), List.getElem?_append_right (by omega), ← hq, List.getElem?_map, List.getElem?_eq_getElem (by omega)]
    rfl
  rw [List.getElem?_eq_getElem hk] at this
  rw [Option.some.inj this]
theorem talk_q_end (t : Talk) : t.q t.says.length = t.all.length := by unfold Talk.q Talk.all; rw [List.take_length]
theorem talk_q_zero (t : Talk) : t.q 0 = 0 := rfl
theorem talk_q_le {t : Talk} {i : Nat} (_ : i ≤ t.says.length) : t.q i ≤ t.all.length := by
  have := talkAll_app t.size.toNat t.a.tsn t.b.tsn (t.says.take i) (t.says.drop i) [] []
  rw [List.take_append_drop] at this
  unfold Talk.q Talk.all
  rw [this, List.length_append]; omega
theorem side_drop {l : List (Bool × Data)} {q : Nat} (h : q < l.length) (b : Bool) : sideL b (l.drop q) = if l[q].1 = b then l[q].2 :: sideL b (l.drop (q + 1)) else sideL b (l.drop (q + 1)) := by
  rw [List.drop_eq_getElem_cons h]
  unfold sideL
  rw [List.filter_cons]
  by_cases hb : l[q].1 = b
  · simp [hb]
  · simp [hb]
theorem saysPk_take {t : Talk} {l : List (Bool × Data)} {q : Nat} (h : q < l.length) : saysPk t (l.take (q + 1)) = saysPk t (l.take q) ++ [onePk t l[q].1 (dataPut l[q].2), onePk t (!l[q].1) (sackPut ⟨l[q].2.tsn, []⟩)] := by
  rw [take_get h]
  unfold saysPk
  rw [List.flatMap_append, List.flatMap_cons, List.flatMap_nil, List.append_nil]
theorem all_len {t : Talk} (hv : talkB t = true) : t.all.length ≤ 24 := by
  rw [sides_len, talk_side hv, talk_side hv]
  have h1 := talkParts_12 t false hv
  have h2 := talkParts_12 t true hv
  omega
end Go.Cap
namespace Go.Cap
theorem talkPk_cons {t : Talk} (hv : talkB t = true) : ∃ rest, talkPk t = ⟨t.fr, t.to, 0, [initPut t.a false]⟩ :: rest ∧ ∀ p ∈ rest, ∃ b c, p = onePk t b c ∧ chunkB c = true := by
  refine ⟨_, by unfold talkPk hello; rw [if_pos hv]; rfl, fun p hp => ?_⟩
  simp only [List.cons_append, List.nil_append, List.append_eq, List.mem_cons, List.mem_append, bye, List.not_mem_nil, or_false] at hp
  rcases hp with rfl | rfl | rfl | (hp | rfl | rfl | rfl)
  · exact ⟨true, _, rfl, initPut_ok _ _⟩
  · exact ⟨false, _, rfl, kind_ok (by omega)⟩
  · exact ⟨true, _, rfl, kind_ok (by omega)⟩
  · obtain ⟨x, hx, hp⟩ := List.mem_flatMap.1 hp
    simp only [List.mem_cons, List.not_mem_nil, or_false] at hp
    rcases hp with rfl | rfl
    · exact ⟨x.1, _, rfl, dataPut_ok (talkAll_data hv hx)⟩
    · exact ⟨!x.1, _, rfl, sackPut_ok _⟩
  · exact ⟨false, _, rfl, kind_ok (by omega)⟩
  · exact ⟨true, _, rfl, kind_ok (by omega)⟩
  · exact ⟨false, _, rfl, kind_ok (by omega)⟩
theorem talkPk_props {t : Talk} (hv : talkB t = true) {i : Nat} (hi : i < (talkPk t).length) : packB (talkPk t)[i] = true ∧ ((talkPk t)[i]).chunks.length = 1 ∧ ((talkPk t)[i]).tag = if i = 0 then 0 else if ((talkPk t)[i]).fr = t.fr then t.b.tag else t.a.tag := by
  obtain ⟨rest, hr, hall⟩ := talkPk_cons hv
  obtain ⟨h1, h2, h3, h4, h5⟩ := talk_head hv
  cases i with
  | zero =>
    simp only [hr, List.getElem_cons_zero, if_true]
    refine ⟨?_, by simp, by simp⟩
    unfold packB inB
    simp [initPut_ok]
    omega
  | succ i =>
    simp only [hr, List.getElem_cons_succ]
    have hil : i < rest.length := by rw [hr] at hi; simpa using hi
    obtain ⟨b, c, hp, hc⟩ := hall _ (List.getElem_mem hil)
    rw [hp]
    refine ⟨one_ok hv b hc, by cases b <;> rfl, ?_⟩
    rw [if_neg (by omega)]
    cases b
    · exact (if_pos rfl).symm
    · exact (if_neg fun e => h3 e.symm).symm
end Go.Cap

/- Plain facts: what was written as a packet is read again. -/
namespace Go.Cap
open Go Go.Proofs
set_option linter.unusedSimpArgs false
set_option linter.unusedVariables false

theorem getD_right (a x : List UInt8) (i : Nat) : (a ++ x).getD (a.length + i) 0 = x.getD i 0 := by
  rw [List.getD_eq_getElem?_getD, List.getD_eq_getElem?_getD, List.getElem?_append_right (by omega), Nat.add_sub_cancel_left]
theorem at2_right (a x : List UInt8) (i : Nat) : at2 (a ++ x) (a.length + i) = at2 x i := by
  unfold at2
  rw [getD_right, Nat.add_assoc, getD_right]
theorem at2_two {n : Int} (h : 0 ≤ n ∧ n < 65536) (b : List UInt8) : at2 (u8 (n / 256) :: u8 (n % 256) :: b) 0 = n := at2_word h [] b
theorem drop_right (a x : List UInt8) (i : Nat) : (a ++ x).drop (a.length + i) = x.drop i := by
  rw [List.drop_append, List.drop_of_length_le (by omega), Nat.add_sub_cancel_left, List.nil_append]
theorem chunk_at {c : Chunk} (h : chunkB c = true) (a b : List UInt8) : chunkOk (a ++ (chunkPut c ++ b)) a.length = true ∧ chunkAt (a ++ (chunkPut c ++ b)) a.length = c ∧ endAt (a ++ (chunkPut c ++ b)) a.length = a.length + (chunkPut c).length := by
  simp only [chunkB, inB, Bool.and_eq_true, decide_eq_true_eq] at h
  obtain ⟨⟨h1, h2⟩, h3⟩ := h
  obtain ⟨kind, flags, body⟩ := c
  simp only at h1 h2 h3
  have hlen := chunkPut_len ⟨kind, flags, body⟩
  simp only at hlen
  have hx : chunkPut ⟨kind, flags, body⟩ ++ b = u8 kind :: u8 flags :: u8 (((4 + body.length : Nat) : Int) / 256) :: u8 (((4 + body.length : Nat) : Int) % 256) :: (body ++ (List.replicate (padN body.length) 0 ++ b)) := by
    simp only [chunkPut, word, List.append_assoc, List.cons_append, List.nil_append]
  have hn : at2 (a ++ (chunkPut ⟨kind, flags, body⟩ ++ b)) (a.length + 2) = ((4 + body.length : Nat) : Int) := by
    rw [at2_right, hx]
    exact at2_two (n := ((4 + body.length : Nat) : Int)) (by omega) (body ++ (List.replicate (padN body.length) 0 ++ b))
  have hpad := padN_lt body.length
  have hend : endAt (a ++ (chunkPut ⟨kind, flags, body⟩ ++ b)) a.length = a.length + (4 + body.length + padN body.length) := by
    unfold endAt
    rw [hn, Int.toNat_natCast]
    omega
  refine ⟨?_, ?_, by rw [hend, hlen]⟩
  · unfold chunkOk
    rw [hend, hn, Int.toNat_natCast]
    have e1 : (a ++ (chunkPut ⟨kind, flags, body⟩ ++ b)).length = a.length + (4 + body.length + padN body.length) + b.length := by
      rw [List.length_append, List.length_append, hlen]; omega
    have e2 : ((a ++ (chunkPut ⟨kind, flags, body⟩ ++ b)).take (a.length + (4 + body.length + padN body.length))).drop (a.length + (4 + body.length)) = List.replicate (padN body.length) 0 := by
      rw [← List.append_assoc, List.take_left' (by rw [List.length_append, hlen]), drop_right]
      have : chunkPut ⟨kind, flags, body⟩ = ([u8 kind, u8 flags] ++ word (4 + body.length : Nat) ++ body) ++ List.replicate (padN body.length) 0 := rfl
      rw [this, List.drop_left' (by simp [word]; omega)]
    rw [e1, e2]
    simp only [inB, Bool.and_eq_true, decide_eq_true_eq, List.all_eq_true, beq_iff_eq]
    exact ⟨⟨⟨by omega, by omega⟩, by omega⟩, fun x hx => (List.mem_replicate.1 hx).2⟩
  · unfold chunkAt byteAt
    rw [hn, Int.toNat_natCast, drop_right, show a.length = a.length + 0 from rfl, getD_right, Nat.add_zero, getD_right, hx]
    simp only [List.getD_cons_zero, List.getD_cons_succ, List.drop_succ_cons, List.drop_zero]
    rw [u8_nat (by omega), u8_nat (by omega), Nat.add_sub_cancel_left, List.take_left' rfl]
theorem chunksGet_put : ∀ (l : List Chunk) (f : Nat) (a : List UInt8), l.length < f → (∀ c ∈ l, chunkB c = true) → chunksGet f (a ++ l.flatMap chunkPut) a.length = some l
  | [], f + 1, a, _, _ => by simp [chunksGet]
  | c :: l, f + 1, a, hf, h => by
    obtain ⟨h1, h2, h3⟩ := chunk_at (h c (by simp)) a (l.flatMap chunkPut)
    have hlen := chunkPut_len c
    rw [chunksGet, List.flatMap_cons, if_neg (by rw [List.length_append, List.length_append]; omega), if_pos h1, h2, h3, ← List.append_assoc]
    have := chunksGet_put l f (a ++ chunkPut c) (by simpa using hf) (fun x hx => h x (by simp [hx]))
    rw [List.length_append] at this
    rw [this]; rfl
theorem long_at {n : Int} (h : 0 ≤ n ∧ n < 4294967296) (a b : List UInt8) : at4 (a ++ (long n ++ b)) a.length = n := by
  have e : a ++ (long n ++ b) = a ++ word (n / 65536) ++ (word (n % 65536) ++ b) := by simp [long]
  have h1 : at2 (a ++ (long n ++ b)) a.length = n / 65536 := by rw [e]; exact at2_word (by omega) a _
  have h2 : at2 (a ++ (long n ++ b)) (a.length + 2) = n % 65536 := by
    have := at2_word (n := n % 65536) (by omega) (a ++ word (n / 65536)) b
    rw [e, ← List.append_assoc]
    rw [List.length_append] at this
    exact this
  unfold at4
  rw [h1, h2]; omega
theorem pack_get {p : Packet} (h : packB p = true) : packGet (packPut p) = (p, 0) := by
  have hb := h
  simp only [packB, inB, Bool.and_eq_true, decide_eq_true_eq, List.all_eq_true] at h
  obtain ⟨⟨⟨⟨⟨h1, h2⟩, h3⟩, h4⟩, h5⟩, h6⟩ := h
  unfold packPut
  rw [if_pos hb]
  have hh : (packHead p).length = 8 := by simp [packHead, word, long]
  generalize hsum : sumOf (packHead p ++ [0, 0, 0, 0] ++ packRest p) = n
  have hn := sumOf_range (packHead p ++ [0, 0, 0, 0] ++ packRest p)
  rw [hsum] at hn
  have hraw : packRaw p = packHead p ++ (long n ++ packRest p) := by unfold packRaw; rw [hsum, List.append_assoc]
  have hl4 : (long n).length = 4 := by simp [long, word]
  have hlen : (packRaw p).length = 12 + (packRest p).length := by rw [hraw, List.length_append, List.length_append, hh, hl4]; omega
  unfold packGet
  rw [if_neg (by omega)]
  have e8 : at4 (packRaw p) 8 = n := by rw [hraw, ← hh]; exact long_at hn _ _
  have et : (packRaw p).take 8 = packHead p := by rw [hraw, List.take_left' hh]
  have ed : (packRaw p).drop 12 = packRest p := by rw [hraw, ← List.append_assoc, List.drop_left' (by rw [List.length_append, hh, hl4])]
  rw [e8, et, ed, hsum, if_neg (by simp)]
  have hrest : ∀ (l : List Chunk), 4 * l.length ≤ (l.flatMap chunkPut).length := by
    intro l
    induction l with
    | nil => simp
    | cons c l ih => rw [List.flatMap_cons, List.length_append, chunkPut_len, List.length_cons]; omega
  have hg : chunksGet (packRaw p).length (packRaw p) 12 = some p.chunks := by
    have := chunksGet_put p.chunks (packRaw p).length (packHead p ++ long n) (by have := hrest p.chunks; unfold packRest at hlen; omega) h6
    rw [List.length_append, hh, hl4, List.append_assoc] at this
    rw [hraw] at this ⊢
    exact this
  rw [hg]
  have hp : packOf (packRaw p) p.chunks = p := by
    unfold packOf
    have e0 : at2 (packRaw p) 0 = p.fr := by
      have : packRaw p = [] ++ word p.fr ++ (word p.to ++ long p.tag ++ (long n ++ packRest p)) := by rw [hraw]; simp [packHead]
      rw [this]; exact at2_word (by omega) [] _
    have e2 : at2 (packRaw p) 2 = p.to := by
      have : packRaw p = word p.fr ++ word p.to ++ (long p.tag ++ (long n ++ packRest p)) := by rw [hraw]; simp [packHead]
      rw [this]; exact at2_word (by omega) (word p.fr) _
    have e4 : at4 (packRaw p) 4 = p.tag := by
      have : packRaw p = (word p.fr ++ word p.to) ++ (long p.tag ++ (long n ++ packRest p)) := by rw [hraw]; simp [packHead]
      rw [this]
      exact long_at (by omega) (word p.fr ++ word p.to) _
    rw [e0, e2, e4]
  simp only [hp, hb, if_true]
end Go.Cap

/- Plain facts: the bodies of chunks are read again. -/
namespace Go.Cap
open Go Go.Proofs
set_option linter.unusedSimpArgs false
set_option linter.unusedVariables false

theorem word_at {n : Int} (h : 0 ≤ n ∧ n < 65536) (a b : List UInt8) (k : Nat) (hk : a.length = k) : at2 (a ++ (word n ++ b)) k = n := by
  subst hk; rw [← List.append_assoc]; exact at2_word h a b
theorem word_len (n : Int) : (word n).length = 2 := rfl
theorem long_len (n : Int) : (long n).length = 4 := rfl
theorem data_get {d : Data} (h : dataB d = true) : dataGet (dataPut d) = some d := by
  obtain ⟨h1, h2, h3, h4⟩ := data_ok h
  have e : dataOf (dataPut d) = d := by
    unfold dataOf dataPut
    obtain ⟨tsn, stream, ssn, first, last, loose, text⟩ := d
    simp only at h1 h2 h3 h4 ⊢
    have e0 : at2 (word tsn ++ word stream ++ word ssn ++ text) 0 = tsn := by
      have := word_at h1 [] (word stream ++ word ssn ++ text) 0 rfl
      simpa using this
    have e2 : at2 (word tsn ++ word stream ++ word ssn ++ text) 2 = stream := by
      have := word_at h2 (word tsn) (word ssn ++ text) 2 rfl
      simpa using this
    have e4 : at2 (word tsn ++ word stream ++ word ssn ++ text) 4 = ssn := by
      have := word_at h3 (word tsn ++ word stream) text 4 rfl
      simpa using this
    have e6 : (word tsn ++ word stream ++ word ssn ++ text).drop 6 = text := List.drop_left' rfl
    rw [e0, e2, e4, e6]
    congr 1 <;> (unfold bit; cases first <;> cases last <;> cases loose <;> simp)
  unfold dataGet
  rw [e, h, if_pos]
  have : inB (dataPut d).flags 0 7 = true := by unfold inB dataPut bit; cases d.last <;> cases d.first <;> cases d.loose <;> simp
  rw [this]
  simp [dataPut, word]
theorem init_get {x : Init} (h : initB x = true) (b : Bool) : initGet (initPut x b) = some x := by
  have h' := h
  simp only [initB, serialB, Bool.and_eq_true, decide_eq_true_eq] at h'
  have e : initOf (initPut x b) = x := by
    unfold initOf initPut
    obtain ⟨tag, window, streams, tsn⟩ := x
    simp only at h' ⊢
    have e0 : at4 (long tag ++ word window ++ word streams ++ word tsn) 0 = tag := by
      have := long_at (n := tag) (by omega) [] (word window ++ word streams ++ word tsn)
      simpa using this
    have e4 : at2 (long tag ++ word window ++ word streams ++ word tsn) 4 = window := by
      have := word_at (n := window) (by omega) (long tag) (word streams ++ word tsn) 4 rfl
      simpa using this
    have e6 : at2 (long tag ++ word window ++ word streams ++ word tsn) 6 = streams := by
      have := word_at (n := streams) (by omega) (long tag ++ word window) (word tsn) 6 rfl
      simpa using this
    have e8 : at2 (long tag ++ word window ++ word streams ++ word tsn) 8 = tsn := by
      have := word_at (n := tsn) (by omega) (long tag ++ word window ++ word streams) [] 8 rfl
      simpa using this
    rw [e0, e4, e6, e8]
  unfold initGet
  rw [e, h, if_pos]
  cases b <;> simp [initPut, word, long]
theorem sack_get {n : Int} (h : 0 ≤ n ∧ n < 65536) : sackGet (sackPut ⟨n, []⟩) = some ⟨n, []⟩ := by
  have e : sackOf (sackPut ⟨n, []⟩) = ⟨n, []⟩ := by
    unfold sackOf sackPut
    have := word_at h [] [] 0 rfl
    simp only [List.nil_append, List.append_nil] at this
    simp only [List.flatMap_nil, List.append_nil, this]
    rfl
  have hs : sackB ⟨n, []⟩ = true := by simp [sackB, serialB, gapsB]; omega
  unfold sackGet
  rw [e, hs, if_pos]
  simp [sackPut, word]
end Go.Cap

/- Contracts: numbers as bytes; chunks of parts, inits and receipts, twice. -/
namespace Go.Cap
open Go Go.Proofs
set_option maxRecDepth 100000
set_option linter.unusedSimpArgs false
set_option linter.unusedVariables false
attribute [local irreducible] Call Run Spec Le

theorem wrap_u8 (x : Int) : IntKind.u8.wrap x = x % 256 := by
  simp only [IntKind.wrap, IntKind.bits, IntKind.signed]
  first | rfl | (simp; done) | omega
theorem shr8 (x : Int) : shiftR .i64 x 8 = x / 256 := by
  unfold shiftR
  rw [Int.fdiv_eq_ediv_of_nonneg _ (by decide)]; rfl
theorem shr16 (x : Int) : shiftR .i64 x 16 = x / 65536 := by
  unfold shiftR
  rw [Int.fdiv_eq_ediv_of_nonneg _ (by decide)]; rfl
theorem shr24 (x : Int) : shiftR .i64 x 24 = x / 16777216 := by
  unfold shiftR
  rw [Int.fdiv_eq_ediv_of_nonneg _ (by decide)]; rfl
theorem byteOf_u8 (x : Int) : byteOf [.n .u8 x] = u8 x := rfl
theorem wb {n : Int} (h : 0 ≤ n ∧ n < 65536) : [byteOf [.n .u8 (IntKind.u8.wrap (shiftR .i64 n 8))], byteOf [.n .u8 (IntKind.u8.wrap n)]] = word n := by
  simp only [byteOf_u8, wrap_u8, shr8, word]
  rw [Int.emod_eq_of_lt (a := n / 256) (by omega) (by omega)]
theorem wt {n : Int} (h : 0 ≤ n ∧ n < 65536) : [byteOf [.n .u8 (IntKind.u8.wrap (IntKind.i64.wrap (n.tdiv 256)))], byteOf [.n .u8 (IntKind.u8.wrap (n.tmod 256))]] = word n := by
  have h1 : n.tdiv 256 = n / 256 := Int.tdiv_eq_ediv_of_nonneg h.1
  have h2 : n.tmod 256 = n % 256 := Int.tmod_eq_emod_of_nonneg h.1
  simp only [byteOf_u8, wrap_u8, h1, h2, word]
  rw [wrap64 (by omega) (by omega), Int.emod_eq_of_lt (a := n / 256) (by omega) (by omega), Int.emod_emod_of_dvd _ (by decide)]
theorem lb {n : Int} (h : 0 ≤ n ∧ n < 4294967296) : [byteOf [.n .u8 (IntKind.u8.wrap (shiftR .i64 n 24))], byteOf [.n .u8 (IntKind.u8.wrap (shiftR .i64 n 16))], byteOf [.n .u8 (IntKind.u8.wrap (shiftR .i64 n 8))], byteOf [.n .u8 (IntKind.u8.wrap n)]] = long n := by
  simp only [byteOf_u8, wrap_u8, shr8, shr16, shr24, long, word, List.cons_append, List.nil_append]
  have e1 : n / 16777216 % 256 = n / 65536 / 256 := by omega
  have e2 : n / 65536 % 256 = n / 65536 % 256 := rfl
  have e3 : n / 256 % 256 = n % 65536 / 256 := by omega
  have e4 : n % 256 = n % 65536 % 256 := by omega
  rw [e1, e3, ← e4]
theorem s_WordPut (n : Int) (h : 0 ≤ n ∧ n < 65536) : Spec Try.prog 150 0 [] [.i n] (fun r _ _ _ => r = .tup [.st (word n), .bo true]) := by
  refine mk150 rfl fun c hP hm => ?_
  unfold pc150
  simp only [hm, go_sem, ↓reduceIte]
  repeat' first | refine And.intro ?_ ?_ | intro _
  all_goals first
    | omega
    | (rename_i hr; rcases hr with rfl | rfl <;> exact ⟨_, rfl⟩)
    | rw [wb h]
theorem s_l1Word (n : Int) (h : 0 ≤ n ∧ n < 65536) : Spec Try.prog 142 0 [] [.i n] (fun r _ _ _ => r = .st (word n)) := by
  refine mk142 rfl fun c hP hm => ?_
  unfold pc142
  simp only [hm, go_sem, ↓reduceIte]
  repeat' first | refine And.intro ?_ ?_ | intro _
  all_goals first
    | omega
    | (rename_i hr; rcases hr with rfl | rfl <;> exact ⟨_, rfl⟩)
    | rw [wt h]
theorem s_LongPut (n : Int) (h : 0 ≤ n ∧ n < 4294967296) : Spec Try.prog 98 0 [] [.i n] (fun r _ _ _ => r = .tup [.st (long n), .bo true]) := by
  refine mk98 rfl fun c hP hm => ?_
  unfold pc98
  simp only [hm, go_sem, ↓reduceIte]
  repeat' first | refine And.intro ?_ ?_ | intro _
  all_goals first
    | omega
    | (rename_i hr; rcases hr with rfl | rfl | rfl | rfl <;> exact ⟨_, rfl⟩)
    | rw [lb h]
theorem s_l1Long (n : Int) (h : 0 ≤ n ∧ n < 4294967296) : Spec Try.prog 152 0 [] [.i n] (fun r _ _ _ => r = .st (long n)) := by
  refine mk152 rfl fun c hP hm => ?_
  unfold pc152
  have h1 : n.tdiv 65536 = n / 65536 := Int.tdiv_eq_ediv_of_nonneg h.1
  have h2 : n.tmod 65536 = n % 65536 := Int.tmod_eq_emod_of_nonneg h.1
  have h3 : IntKind.i64.wrap (n / 65536) = n / 65536 := wrap64 (by omega) (by omega)
  simp only [h1, h2, h3, hm, go_sem, ↓reduceIte]
  refine call_pure (hP ▸ s_l1Word (n / 65536) (by omega)) rfl rfl ?_
  simp only [h1, h2, h3, hm, go_sem, ↓reduceIte]
  refine call_pure (hP ▸ s_l1Word (n % 65536) (by omega)) rfl rfl ?_
  simp only [word_len, hm, go_sem, ↓reduceIte]
  first | done | rfl | exact ⟨by decide, rfl⟩
theorem s_words (l : List Int) (hl : l.length ≤ 1000) (h : ∀ n ∈ l, 0 ≤ n ∧ n < 65536) : Spec Try.prog 99 0 [] [.r (.ro none (l.map intRow))] (fun r _ _ _ => r = .st (l.flatMap word)) := by
  refine mk99 rfl fun c hP hm => ?_
  unfold pc99
  simp only [hm, go_sem, ↓reduceIte]
  intro _
  have hlen : ∀ l : List Int, (l.flatMap word).length = 2 * l.length := by
    intro l
    induction l with
    | nil => rfl
    | cons x l ih => rw [List.flatMap_cons, List.length_append, ih, word_len, List.length_cons]; omega
  refine lp_wpc (α := Nat) (fun i => ⟨[(3, .st ((l.take i).flatMap word)), (8, .r (.ro none (l.map intRow))), (9, .i l.length), (10, .i i)], [], 0, []⟩) (fun i => i ≤ l.length) (fun i => l.length - i) 0 (Nat.zero_le _) (by (refine le_ev [] ?_; simp only [hm, go_sem, ↓reduceIte]; first | done | rfl | exact ⟨rfl, rfl⟩)) ?_
  intro i hi
  unfold pc99l0
  rcases Nat.lt_or_ge i l.length with hil | hil
  · have hw : IntKind.i64.wrap ((i : Int) + 1) = ((i + 1 : Nat) : Int) := by rw [wrap64 (by omega) (by omega)]; omega
    have hg := getD_map (f := intRow) hil
    have htk : (l.take (i + 1)).flatMap word = (l.take i).flatMap word ++ word l[i] := by rw [take_get hil, List.flatMap_append]; simp
    have hlt := hlen (l.take i)
    rw [List.length_take] at hlt
    have hr := h _ (List.getElem_mem hil)
    generalize l[i] = n at hg htk hr
    simp only [hw, Int.toNat_natCast, hg, intRow, hm, go_sem, ↓reduceIte]
    repeat' first | refine And.intro ?_ ?_ | intro _ | (refine call_data (hP ▸ s_WordPut n hr) rfl rfl ?_; simp only [hw, word_len, Int.toNat_natCast, hg, intRow, hm, go_sem, ↓reduceIte])
    all_goals first
      | omega
      | rfl
      | (refine ⟨i + 1, hil, by omega, ?_⟩; rw [← htk]; (refine le_ev [] ?_; simp only [hm, go_sem, ↓reduceIte]; first | done | rfl | exact ⟨rfl, rfl⟩))
  · have : i = l.length := by omega
    subst this
    simp only [List.take_length, hm, go_sem, ↓reduceIte]
    repeat' first | refine And.intro ?_ ?_ | intro _
    all_goals first
      | omega
      | rfl
theorem s_l12Bit (b : Bool) (n : Int) : Spec Try.prog 141 0 [] [.bo b, .i n] (fun r _ _ _ => r = .i (bit b n)) := by
  refine mk141 rfl fun c hP hm => ?_
  unfold pc141 bit
  cases b <;> simp only [hm, go_sem, ↓reduceIte]
theorem w01 : IntKind.i64.wrap (0 + 1) = 1 := by decide
theorem w02 : IntKind.i64.wrap (0 + 2) = 2 := by decide
theorem w12 : IntKind.i64.wrap (1 + 2) = 3 := by decide
theorem w04 : IntKind.i64.wrap (0 + 4) = 4 := by decide
theorem w14 : IntKind.i64.wrap (1 + 4) = 5 := by decide
theorem w24 : IntKind.i64.wrap (2 + 4) = 6 := by decide
theorem w34 : IntKind.i64.wrap (3 + 4) = 7 := by decide
theorem s_implDataPut (d : Data) (h : dataB d = true) : Spec Try.prog 88 0 [] [d.av] (fun r _ _ _ => r = .tup [(dataPut d).av, .bo true]) := by
  obtain ⟨h1, h2, h3, h4⟩ := data_ok h
  refine mk88 rfl fun c hP hm => ?_
  unfold pc88 Data.av
  simp only [hm, go_sem, ↓reduceIte]
  refine call_pure (hP ▸ s_dataOk d (by omega)) rfl rfl ?_
  rw [h]
  have hws := s_words [d.tsn, d.stream, d.ssn] (by simp) (by simp only [List.mem_cons, List.not_mem_nil, or_false]; rintro n (rfl | rfl | rfl) <;> omega)
  have e1 : ([d.tsn, d.stream, d.ssn].flatMap word) = word d.tsn ++ word d.stream ++ word d.ssn := by simp
  rw [e1] at hws
  cases hf : d.first <;> cases hl : d.last <;> cases hx : d.loose
  all_goals
    simp only [w01, w02, w12, w04, w14, w24, w34, hm, go_sem, ↓reduceIte]
    refine call_flat (hP ▸ hws) rfl (.cons (Vw.full rfl (by simp)) .nil) ?_
    simp only [List.length_append, word_len, hm, go_sem, ↓reduceIte]
    repeat' first | refine And.intro ?_ ?_ | intro _
    all_goals first
      | omega
      | rfl
      | (simp only [dataPut, Chunk.av, bit, hf, hl, hx, Bool.false_eq_true, if_false, if_true]; rfl)
theorem s_specDataPut (d : Data) (h : dataB d = true) : Spec Try.prog 78 0 [] [d.av] (fun r _ _ _ => r = .tup [(dataPut d).av, .bo true]) := by
  obtain ⟨h1, h2, h3, h4⟩ := data_ok h
  refine mk78 rfl fun c hP hm => ?_
  unfold pc78 Data.av
  simp only [hm, go_sem, ↓reduceIte]
  refine call_pure (hP ▸ s_l12Data d (by omega)) rfl rfl ?_
  rw [h]
  have hb : ∀ (b : Bool) (n : Int), n = 1 ∨ n = 2 ∨ n = 4 → 0 ≤ bit b n ∧ bit b n ≤ n := fun b n hn => by cases b <;> simp [bit] <;> omega
  have q1 := hb d.last 1 (by simp)
  have q2 := hb d.first 2 (by simp)
  have q3 := hb d.loose 4 (by simp)
  have e1 : IntKind.i64.wrap (bit d.last 1 + bit d.first 2) = bit d.last 1 + bit d.first 2 := wrap64 (by omega) (by omega)
  have e2 : IntKind.i64.wrap (bit d.last 1 + bit d.first 2 + bit d.loose 4) = bit d.last 1 + bit d.first 2 + bit d.loose 4 := wrap64 (by omega) (by omega)
  simp only [e1, e2, hm, go_sem, ↓reduceIte]
  repeat' first | refine And.intro ?_ ?_ | intro _ | (refine call_pure (hP ▸ s_l12Bit d.last 1) rfl rfl ?_; simp only [e1, e2, hm, go_sem, ↓reduceIte]) | (refine call_pure (hP ▸ s_l12Bit d.first 2) rfl rfl ?_; simp only [e1, e2, hm, go_sem, ↓reduceIte]) | (refine call_pure (hP ▸ s_l12Bit d.loose 4) rfl rfl ?_; simp only [e1, e2, hm, go_sem, ↓reduceIte]) | (refine call_pure (hP ▸ s_l1Word d.tsn h1) rfl rfl ?_; simp only [word_len, List.length_append, hm, go_sem, ↓reduceIte]) | (refine call_pure (hP ▸ s_l1Word d.stream h2) rfl rfl ?_; simp only [word_len, List.length_append, hm, go_sem, ↓reduceIte]) | (refine call_pure (hP ▸ s_l1Word d.ssn h3) rfl rfl ?_; simp only [word_len, List.length_append, hm, go_sem, ↓reduceIte])
  all_goals first
    | omega
    | rfl
theorem s_implInitPut (x : Init) (b : Bool) (h : initB x = true) : Spec Try.prog 86 0 [] [x.av, .bo b] (fun r _ _ _ => r = .tup [(initPut x b).av, .bo true]) := by
  have h' := h
  simp only [initB, serialB, Bool.and_eq_true, decide_eq_true_eq] at h'
  refine mk86 rfl fun c hP hm => ?_
  unfold pc86 Init.av
  simp only [hm, go_sem, ↓reduceIte]
  refine call_pure (hP ▸ s_initOk x) rfl rfl ?_
  rw [h]
  have hws := s_words [x.window, x.streams, x.tsn] (by simp) (by simp only [List.mem_cons, List.not_mem_nil, or_false]; rintro n (rfl | rfl | rfl) <;> omega)
  have e1 : ([x.window, x.streams, x.tsn].flatMap word) = word x.window ++ word x.streams ++ word x.tsn := by simp
  rw [e1] at hws
  cases b
  all_goals
    simp only [hm, go_sem, ↓reduceIte]
    refine call_data (hP ▸ s_LongPut x.tag (by omega)) rfl rfl ?_
    simp only [hm, go_sem, ↓reduceIte]
    refine call_flat (hP ▸ hws) rfl (.cons (Vw.full rfl (by simp)) .nil) ?_
    simp only [List.length_append, word_len, long_len, hm, go_sem, ↓reduceIte]
    repeat' first | refine And.intro ?_ ?_ | intro _
    all_goals first
      | omega
      | rfl
      | (simp only [initPut, Chunk.av, List.append_assoc, Bool.false_eq_true, if_false, if_true]; rfl)
theorem s_specInitPut (x : Init) (b : Bool) (h : initB x = true) : Spec Try.prog 137 0 [] [x.av, .bo b] (fun r _ _ _ => r = .tup [(initPut x b).av, .bo true]) := by
  have h' := h
  simp only [initB, serialB, Bool.and_eq_true, decide_eq_true_eq] at h'
  refine mk137 rfl fun c hP hm => ?_
  unfold pc137 Init.av
  simp only [hm, go_sem, ↓reduceIte]
  refine call_pure (hP ▸ s_l12Init x) rfl rfl ?_
  rw [h]
  simp only [hm, go_sem, ↓reduceIte]
  repeat' first | refine And.intro ?_ ?_ | intro _ | (refine call_pure (hP ▸ s_l1Long x.tag (by omega)) rfl rfl ?_; simp only [word_len, long_len, List.length_append, hm, go_sem, ↓reduceIte]) | (refine call_pure (hP ▸ s_l1Word x.window (by omega)) rfl rfl ?_; simp only [word_len, long_len, List.length_append, hm, go_sem, ↓reduceIte]) | (refine call_pure (hP ▸ s_l1Word x.streams (by omega)) rfl rfl ?_; simp only [word_len, long_len, List.length_append, hm, go_sem, ↓reduceIte]) | (refine call_pure (hP ▸ s_l1Word x.tsn (by omega)) rfl rfl ?_; simp only [word_len, long_len, List.length_append, hm, go_sem, ↓reduceIte])
  all_goals first
    | omega
    | rfl
    | (subst_vars; rfl)
def Sack.ro (s : Sack) : AV := .agg [.i s.cum, .r (.ro none (s.gaps.map Gap.row))]
theorem gapsB_drop {l : List Gap} {i : Nat} (h : i < l.length) (last : Int) : gapsB last (l.drop i) = (decide (last + 2 ≤ l[i].fr ∧ l[i].fr ≤ l[i].to ∧ l[i].to ≤ 16) && gapsB l[i].to (l.drop (i + 1))) := by
  rw [List.drop_eq_getElem_cons h]; rfl
theorem s_sackOk (s : Sack) (hl : s.gaps.length ≤ 2000000) : Spec Try.prog 145 0 [] [s.ro] (fun r _ _ _ => r = .bo (sackB s)) := by
  refine mr145 rfl fun c hP hm => ?_
  unfold pc145 Sack.ro
  refine run_seq (run_wpc _ _ _ _ _ ?_)
  simp only [hm, go_sem, ↓reduceIte]
  refine run_seq (run_wpc _ _ _ _ _ ?_)
  simp only [hm, go_sem, ↓reduceIte]
  repeat' first | refine And.intro ?_ ?_ | intro _ | (refine c_serialOk hP ?_; simp only [hm, go_sem, ↓reduceIte])
  all_goals first
    | (apply bo_inj; simp [sackB, *]; done)
    | (apply bo_inj; simp [sackB, *]; omega)
    | skip
  rename_i hser _ h8
  refine run_wpc _ _ _ _ _ ?_
  simp only [hm, go_sem, ↓reduceIte]
  intro _
  refine lp_wpc (α := Nat × Int) (fun y => ⟨[(3, .i (y.2 + 2)), (17, .r (.ro none (s.gaps.map Gap.row))), (18, .i s.gaps.length), (19, .i y.1)], [], 0, []⟩)
    (fun y => y.1 ≤ s.gaps.length ∧ 0 ≤ y.2 ∧ y.2 ≤ 16 ∧ gapsB y.2 (s.gaps.drop y.1) = gapsB 0 s.gaps) (fun y => s.gaps.length - y.1) (0, 0) ⟨Nat.zero_le _, by simp, by simp, rfl⟩ (by (refine le_ev [] ?_; simp only [hm, go_sem, ↓reduceIte]; first | done | rfl | exact ⟨rfl, rfl⟩)) ?_
  rintro ⟨i, last⟩ ⟨hi, hb0, hb1, hI⟩
  simp only at hi hb0 hb1 hI
  unfold pc145l0
  rcases Nat.lt_or_ge i s.gaps.length with hil | hil
  · have hw : IntKind.i64.wrap ((i : Int) + 1) = ((i + 1 : Nat) : Int) := by rw [wrap64 (by omega) (by omega)]; omega
    rw [gapsB_drop hil] at hI
    have hg := getD_map (f := Gap.row) hil
    generalize s.gaps[i] = g at hI hg
    have hok : gapsB 0 s.gaps = false → AV.r (RV.b false) = AV.bo (sackB s) := fun h => by simp [sackB, h]
    simp only [hw, Int.toNat_natCast, hg, Gap.row, hm, go_sem, ↓reduceIte]
    repeat' first | refine And.intro ?_ ?_ | intro _
    all_goals first
      | omega
      | rfl
      | (refine hok ?_; rw [← hI, decide_eq_false (by omega)]; rfl)
      | (rw [decide_eq_true (by omega), Bool.true_and] at hI
         refine ⟨(i + 1, g.to), ⟨hil, ?_, ?_, hI⟩, ?_, ?_⟩
         · simp only; omega
         · simp only; omega
         · simp only; omega
         · rw [wrap64 (x := g.to + 2) (by omega) (by omega)]
           (refine le_ev [] ?_; simp only [hm, go_sem, ↓reduceIte]; first | done | rfl | exact ⟨rfl, rfl⟩))
  · have : i = s.gaps.length := by omega
    subst this
    rw [List.drop_eq_nil_of_le (Nat.le_refl _)] at hI
    simp only [hm, go_sem, ↓reduceIte]
    repeat' first | refine And.intro ?_ ?_ | intro _
    all_goals first
      | omega
      | (apply bo_inj; simp [sackB, hser, ← hI, gapsB]; omega)
theorem s_l12Sack (s : Sack) (hl : s.gaps.length ≤ 2000000) : Spec Try.prog 143 0 [] [s.ro] (fun r _ _ _ => r = .bo (sackB s)) := by
  refine mr143 rfl fun c hP hm => ?_
  unfold pc143 Sack.ro
  refine run_seq (run_wpc _ _ _ _ _ ?_)
  simp only [hm, go_sem, ↓reduceIte]
  refine run_seq (run_wpc _ _ _ _ _ ?_)
  simp only [hm, go_sem, ↓reduceIte]
  refine run_seq (run_wpc _ _ _ _ _ ?_)
  simp only [hm, go_sem, ↓reduceIte]
  refine run_exit 0 (fun t0 => t0 = ⟨[(1, .ptr 0 0 0)], [(0, .var [.i s.cum, .r (.ro none (s.gaps.map Gap.row))])], 1, []⟩ ∧ gapsB 0 s.gaps = true) ?_ ?_
  · refine lp_wpc (α := Nat × Int) (fun y => ⟨[(1, .ptr 0 0 0), (3, .i y.2), (4, .i y.1)], [(0, .var [.i s.cum, .r (.ro none (s.gaps.map Gap.row))])], 1, []⟩)
      (fun y => y.1 ≤ s.gaps.length ∧ 0 ≤ y.2 ∧ y.2 ≤ 16 ∧ gapsB y.2 (s.gaps.drop y.1) = gapsB 0 s.gaps) (fun y => s.gaps.length - y.1) (0, 0) ⟨Nat.zero_le _, by simp, by simp, rfl⟩ (by (refine le_ev [] ?_; simp only [hm, go_sem, ↓reduceIte]; first | done | rfl | exact ⟨rfl, rfl⟩)) ?_
    rintro ⟨i, last⟩ ⟨hi, hb0, hb1, hI⟩
    simp only at hi hb0 hb1 hI
    unfold pc143l0
    rcases Nat.lt_or_ge i s.gaps.length with hil | hil
    · have hw : IntKind.i64.wrap ((i : Int) + 1) = ((i + 1 : Nat) : Int) := by rw [wrap64 (by omega) (by omega)]; omega
      have hw2 : IntKind.i64.wrap (last + 2) = last + 2 := wrap64 (by omega) (by omega)
      rw [gapsB_drop hil] at hI
      have hg := getD_map (f := Gap.row) hil
      generalize s.gaps[i] = g at hI hg
      have hok : gapsB 0 s.gaps = false → AV.r (RV.b false) = AV.bo (sackB s) := fun h => by simp [sackB, h]
      simp only [hw, hw2, Int.toNat_natCast, hg, Gap.row, hm, go_sem, ↓reduceIte]
      repeat' first | refine And.intro ?_ ?_ | intro _
      all_goals first
        | omega
        | rfl
        | (refine hok ?_; rw [← hI, decide_eq_false (by omega)]; rfl)
        | (rw [decide_eq_true (by omega), Bool.true_and] at hI
           refine ⟨(i + 1, g.to), ⟨hil, ?_, ?_, hI⟩, ?_, ?_⟩
           · simp only; omega
           · simp only; omega
           · simp only; omega
           · (refine le_ev [] ?_; simp only [hm, go_sem, ↓reduceIte]; first | done | rfl | exact ⟨rfl, rfl⟩))
    · have : i = s.gaps.length := by omega
      subst this
      rw [List.drop_eq_nil_of_le (Nat.le_refl _)] at hI
      simp only [hm, go_sem, ↓reduceIte]
      repeat' first | refine And.intro ?_ ?_ | intro _
      all_goals first
        | omega
        | (refine ⟨_, ⟨rfl, hI.symm⟩, ?_⟩; (refine le_ev [] ?_; simp only [hm, go_sem, ↓reduceIte]; first | done | rfl | exact ⟨rfl, rfl⟩))
  rintro t0 ⟨rfl, hG⟩
  refine run_wpc _ _ _ _ _ ?_
  simp only [hm, go_sem, ↓reduceIte]
  repeat' first | refine And.intro ?_ ?_ | intro _ | (refine c_l3Ok hP ?_; simp only [hm, go_sem, ↓reduceIte])
  all_goals first
    | (apply bo_inj; simp [sackB, *]; done)
    | (apply bo_inj; rw [Bool.eq_iff_iff]; simp [sackB, *]; omega)
theorem s_implSackPut0 (n : Int) (h : 0 ≤ n ∧ n < 65536) : Spec Try.prog 89 0 [] [.agg [.i n, .r .nil]] (fun r _ _ _ => r = .tup [(sackPut ⟨n, []⟩).av, .bo true]) := by
  have hs : sackB ⟨n, []⟩ = true := by simp [sackB, serialB, gapsB, h]
  refine mk89 rfl fun c hP hm => ?_
  unfold pc89
  simp only [hm, go_sem, ↓reduceIte]
  refine call_flat (hP ▸ s_sackOk ⟨n, []⟩ (by simp)) rfl (.cons (vw_agg (.cons (vw_self _ _ rfl) (.cons Vw.nil .nil))) .nil) ?_
  simp only [hs, hm, go_sem, ↓reduceIte]
  have hws := s_words [n] (by simp) (by simpa using h)
  have e1 : ([n].flatMap word) = word n := by simp
  rw [e1] at hws
  refine call_flat (hP ▸ hws) rfl (.cons (Vw.full rfl (by simp)) .nil) ?_
  simp only [hm, go_sem, ↓reduceIte]
  refine lp_wpc (α := Unit) (fun _ => ⟨[(2, .ptr 0 0 0), (4, .st (word n)), (16, .r .nil), (17, .i 0), (18, .i 0)], [(0, .var [.i 0, .i 0, .st []])], 1, []⟩) (fun _ => True) (fun _ => 0) () trivial (by (refine le_ev [(0, 1)] ?_; simp only [hm, go_sem, ↓reduceIte]; first | done | rfl | exact ⟨rfl, rfl⟩)) ?_
  intro _ _
  unfold pc89l0
  simp only [hm, go_sem, ↓reduceIte]
  repeat' first | refine And.intro ?_ ?_ | intro _
  all_goals first
    | omega
    | (simp [sackPut, Chunk.av]; done)
theorem s_specSackPut0 (n : Int) (h : 0 ≤ n ∧ n < 65536) : Spec Try.prog 79 0 [] [.agg [.i n, .r .nil]] (fun r _ _ _ => r = .tup [(sackPut ⟨n, []⟩).av, .bo true]) := by
  have hs : sackB ⟨n, []⟩ = true := by simp [sackB, serialB, gapsB, h]
  refine mk79 rfl fun c hP hm => ?_
  unfold pc79
  simp only [hm, go_sem, ↓reduceIte]
  refine call_flat (hP ▸ s_l12Sack ⟨n, []⟩ (by simp)) rfl (.cons (vw_agg (.cons (vw_self _ _ rfl) (.cons Vw.nil .nil))) .nil) ?_
  simp only [hs, hm, go_sem, ↓reduceIte]
  refine call_pure (hP ▸ s_l1Word n h) rfl rfl ?_
  simp only [hm, go_sem, ↓reduceIte]
  refine lp_wpc (α := Unit) (fun _ => ⟨[(1, .ptr 0 0 0), (2, .ptr 1 0 0), (4, .st (word n)), (5, .i 0)], [(0, .var [.i n, .r .nil]), (1, .var [.i 0, .i 0, .st []])], 2, []⟩) (fun _ => True) (fun _ => 0) () trivial (by (refine le_ev [] ?_; simp only [hm, go_sem, ↓reduceIte]; first | done | rfl | exact ⟨rfl, rfl⟩)) ?_
  intro _ _
  unfold pc79l0
  simp only [hm, go_sem, ↓reduceIte]
  repeat' first | refine And.intro ?_ ?_ | intro _
  all_goals first
    | omega
    | (simp [sackPut, Chunk.av]; done)
end Go.Cap

/- Contracts: associations are valid, twice. -/
namespace Go.Cap
open Go Go.Proofs
set_option maxRecDepth 100000
set_option linter.unusedSimpArgs false
set_option linter.unusedVariables false
attribute [local irreducible] Call Run Spec Le

def SFit (s : Side) : Prop := s.sent.length ≤ 2000000 ∧ ∀ d ∈ s.sent, d.text.length ≤ 9223372036854775807
theorem s_implAssocValid (a : Assoc) (ha : SFit a.a) (hb : SFit a.b) : Spec Try.prog 63 0 [] [a.ro] (fun r _ _ _ => r = .bo (assocB a)) := by
  refine mk63 rfl fun c hP hm => ?_
  unfold pc63 Assoc.ro Assoc.av
  have ka := ha.1
  have kb := hb.1
  have hw : IntKind.i64.wrap ((a.a.sent.length : Int) + (a.b.sent.length : Int)) = (a.a.sent.length : Int) + a.b.sent.length := wrap64 (by omega) (by omega)
  have hif := @assocB_iff a
  simp only [hw, hm, go_sem, ↓reduceIte]
  repeat' first | refine And.intro ?_ ?_ | intro _ | (refine call_pure (hP ▸ s_implSideValid a.a ha.1 ha.2) rfl rfl ?_; simp only [hw, hm, go_sem, ↓reduceIte]; cases hsa : sideB a.a <;> simp only [hw, hm, go_sem, ↓reduceIte]) | (refine call_pure (hP ▸ s_implSideValid a.b hb.1 hb.2) rfl rfl ?_; simp only [hw, hm, go_sem, ↓reduceIte]; cases hsb : sideB a.b <;> simp only [hw, hm, go_sem, ↓reduceIte])
  all_goals first
    | omega
    | (apply bo_inj
       rw [Bool.eq_iff_iff, hif]
       clear hif ha hb hP hm hw
       first
         | (simp_all; done)
         | (simp_all; omega)
         | (simp only [decide_eq_decide, inB, decide_eq_true_eq, decide_eq_false_iff_not] at *; simp only [true_iff]; refine ⟨by omega, by omega, by omega, by omega, by assumption, by assumption, by omega, by omega, by omega, ?_⟩; first | exact .inl (by assumption) | exact .inr (by omega))
         | (simp only [decide_eq_decide, inB, decide_eq_true_eq, decide_eq_false_iff_not] at *
            constructor
            · intro h5
              refine ⟨by omega, by omega, by omega, by omega, by assumption, by assumption, by omega, by omega, by omega, .inr h5⟩
            · rintro ⟨g1, g2, g3, g4, g5, g6, g7, g8, g9, g10⟩
              rcases g10 with g | g
              · simp_all
                done
              · exact g)
         | (simp only [decide_eq_decide, inB, decide_eq_true_eq, decide_eq_false_iff_not] at *; simp only [Bool.false_eq_true, false_iff]; rintro ⟨g1, g2, g3, g4, g5, g6, g7, g8, g9, g10⟩; first | omega | (simp_all; done) | (simp_all; omega)))
end Go.Cap

/- Contracts: findings; monitors are valid (the program's). -/
namespace Go.Cap
open Go Go.Proofs
set_option maxRecDepth 100000
set_option linter.unusedSimpArgs false
set_option linter.unusedVariables false
attribute [local irreducible] Call Run Spec Le

structure MFit (m : Mon) : Prop where
  nl : m.list.length ≤ 2000000
  nf : m.found.length ≤ 2000000
  a : ∀ x ∈ m.list, SFit x.a ∧ SFit x.b
theorem s_samePorts (a : Assoc) (x y : RV) (f t : Int) : Spec Try.prog 106 0 [] [a.av (.r x) (.r y), .i f, .i t] (fun r _ _ _ => r = .bo (pairB a f t)) := by
  refine mk106 rfl fun c hP hm => ?_
  unfold pc106 Assoc.av
  simp only [hm, go_sem, ↓reduceIte]
  repeat' first | refine And.intro ?_ ?_ | intro _
  all_goals (apply bo_inj; unfold pairB; first | (rw [decide_eq_true (by omega)]; done) | (rw [decide_eq_false (by omega)]; done) | (simp [*]; done) | (rw [Bool.eq_iff_iff]; simp [*] <;> omega))
theorem rowAt {l : List Fnd} {i : Nat} (h : i < l.length) : (l.map Fnd.row).getD i [] = (fndAt l i).row := by rw [getD_map h, fndAt_eq h]
theorem s_implFoundOk (l : List Fnd) (n : Int) : Spec Try.prog 155 0 [] [.r (.ro none (l.map Fnd.row)), .i n] (fun r _ _ _ => r = .bo (foundB n l)) := by
  refine mk155 rfl fun c hP hm => ?_
  unfold pc155
  simp only [hm, go_sem, ↓reduceIte]
  intro hlen
  refine lp_wpc (α := Nat) (fun i => ⟨[(0, .r (.ro none (l.map Fnd.row))), (1, .i n), (7, .r (.ro none (l.map Fnd.row))), (8, .i l.length), (9, .i i)], [], 0, []⟩)
    (fun i => i ≤ l.length ∧ ∀ j, j < i → foundOne n l j = true) (fun i => l.length - i) 0 ⟨Nat.zero_le _, fun j hj => by omega⟩ (by (refine le_ev [] ?_; simp only [hm, go_sem, ↓reduceIte]; first | done | rfl | exact ⟨rfl, rfl⟩)) ?_
  rintro i ⟨hi, hI⟩
  unfold pc155l0
  rcases Nat.lt_or_ge i l.length with hil | hil
  · have hw : IntKind.i64.wrap ((i : Int) + 1) = ((i + 1 : Nat) : Int) := by rw [wrap64 (by omega) (by omega)]; omega
    have hg := rowAt hil
    have hok : foundOne n l i = false → AV.r (RV.b false) = AV.bo (foundB n l) := fun h => by unfold foundB; rw [allB_false hil h]
    have hst : foundOne n l i = true → i + 1 ≤ l.length ∧ ∀ j, j < i + 1 → foundOne n l j = true := fun h => ⟨hil, fun j hj => by
      rcases Nat.lt_or_ge j i with h2 | h2
      · exact hI j h2
      · have : j = i := by omega
        rw [this]; exact h⟩
    have hg1 : 0 < i → (l.map Fnd.row).getD (i - 1) [] = (fndAt l (i - 1)).row := fun _ => rowAt (by omega)
    have hw1 : 0 < i → IntKind.i64.wrap ((i : Int) - 1) = ((i - 1 : Nat) : Int) := fun _ => by rw [wrap64 (by omega) (by omega)]; omega
    have hdef : foundOne n l i = (fndB n (fndAt l i) && (decide (i = 0) || lessB (fndAt l (i - 1)) (fndAt l i))) := rfl
    unfold fndB lessB inB at hdef
    generalize foundOne n l i = F at hok hst hdef
    generalize fndAt l i = f at hg hdef
    generalize fndAt l (i - 1) = e at hg1 hdef
    rcases Nat.eq_zero_or_pos i with h0 | h0
    · subst h0
      have hz : IntKind.i64.wrap ((0 : Int) + 1) = ((0 + 1 : Nat) : Int) := by decide
      simp only [Int.natCast_zero, Int.toNat_zero, hz, hg, Fnd.row, hm, go_sem, ↓reduceIte]
      repeat' first | refine And.intro ?_ ?_ | intro _
      all_goals first
        | omega
        | (refine hok ?_; rw [hdef]; simp; omega)
        | (refine ⟨0 + 1, hst ?_, by omega, by (refine le_ev [] ?_; simp only [hm, go_sem, ↓reduceIte]; first | done | rfl | exact ⟨rfl, rfl⟩)⟩; rw [hdef]; simp; omega)
    · have hne : ¬ i = 0 := by omega
      simp only [hne, decide_false, Bool.false_or] at hdef
      simp only [hw, hw1 h0, Int.toNat_natCast, hg, hg1 h0, Fnd.row, hm, go_sem, ↓reduceIte]
      repeat' first | refine And.intro ?_ ?_ | intro _
      all_goals first
        | omega
        | (refine hok ?_; rw [hdef]; simp; omega)
        | (refine ⟨i + 1, hst ?_, by omega, by (refine le_ev [] ?_; simp only [hm, go_sem, ↓reduceIte]; first | done | rfl | exact ⟨rfl, rfl⟩)⟩; rw [hdef]; simp; omega)
  · have : i = l.length := by omega
    subst this
    have hfin : foundB n l = true := allB_true hI
    simp only [hm, go_sem, ↓reduceIte]
    repeat' first | refine And.intro ?_ ?_ | intro _
    all_goals first
      | omega
      | rw [hfin]
end Go.Cap

/- Contracts: monitors are valid, twice. -/
namespace Go.Cap
open Go Go.Proofs
set_option maxRecDepth 100000
set_option linter.unusedSimpArgs false
set_option linter.unusedVariables false
attribute [local irreducible] Call Run Spec Le

theorem arowAt {l : List Assoc} {i : Nat} (h : i < l.length) : (l.map Assoc.row).getD i [] = (assocAt l i).row := by rw [getD_map h, assocAt_eq h]
theorem take_at {l : List Assoc} {i k : Nat} (h : k < i) (hi : i ≤ l.length) : ((l.map Assoc.row).take i).getD k [] = (assocAt l k).row := by
  rw [List.getD_eq_getElem?_getD, List.getElem?_take, if_pos h, List.getElem?_map, List.getElem?_eq_getElem (by omega), assocAt_eq (by omega)]
  rfl
theorem lt_succ' {Q : Nat → Prop} {i : Nat} (h : ∀ j, j < i → Q j) (hi : Q i) : ∀ j, j < i + 1 → Q j := fun j hj => by
  rcases Nat.lt_or_ge j i with h2 | h2
  · exact h j h2
  · have : j = i := by omega
    rw [this]; exact hi
theorem lt_succ_all {p : Nat → Bool} {i : Nat} (h : ∀ j, j < i → p j = true) (hi : p i = true) : ∀ j, j < i + 1 → p j = true := fun j hj => by
  rcases Nat.lt_or_ge j i with h2 | h2
  · exact h j h2
  · have : j = i := by omega
    rw [this]; exact hi
theorem s_implMonitorValid (m : Mon) (hf : MFit m) : Spec Try.prog 104 0 [] [m.ro] (fun r _ _ _ => r = .bo (monB m)) := by
  refine mr104 rfl fun c hP hm => ?_
  unfold pc104 Mon.ro
  refine run_seq (run_wpc _ _ _ _ _ ?_)
  simp only [hm, go_sem, ↓reduceIte]
  refine run_seq (run_wpc _ _ _ _ _ ?_)
  simp only [hm, go_sem, ↓reduceIte]
  repeat' first | refine And.intro ?_ ?_ | intro _
  all_goals first
    | (apply bo_inj; unfold monB inB; simp; omega)
    | skip
  have hn3 : m.list.length ≤ 3 := by omega
  refine run_wpc _ _ _ _ _ ?_
  simp only [hm, go_sem, ↓reduceIte]
  intro _
  refine run_exit 0 (fun t0 => t0 = ⟨[(1, .ptr 0 0 0)], [(0, .var [.i m.records, .r (.ro none (m.list.map Assoc.row)), .r (.ro none (m.found.map Fnd.row))])], 1, []⟩ ∧ listB m.list = true) ?_ ?_
  rotate_left
  · rintro t0 ⟨rfl, hL⟩
    simp only [hm, go_sem, ↓reduceIte]
    refine call_pure (hP ▸ s_implFoundOk m.found m.records) rfl rfl ?_
    simp only [hm, go_sem, ↓reduceIte]
    apply bo_inj
    unfold monB inB
    rw [hL]
    simp
    omega
  refine lp_wpc (α := Nat) (fun i => ⟨[(1, .ptr 0 0 0), (22, .r (.ro none (m.list.map Assoc.row))), (23, .i m.list.length), (24, .i i)], [(0, .var [.i m.records, .r (.ro none (m.list.map Assoc.row)), .r (.ro none (m.found.map Fnd.row))])], 1, []⟩)
    (fun i => i ≤ m.list.length ∧ ∀ j, j < i → listOne m.list j = true) (fun i => m.list.length - i) 0 ⟨Nat.zero_le _, fun j hj => by omega⟩ (by (refine le_ev [] ?_; simp only [hm, go_sem, ↓reduceIte]; first | done | rfl | exact ⟨rfl, rfl⟩)) ?_
  rintro i ⟨hi, hI⟩
  unfold pc104l1
  rcases Nat.lt_or_ge i m.list.length with hil | hil
  · have hw : IntKind.i64.wrap ((i : Int) + 1) = ((i + 1 : Nat) : Int) := by rw [wrap64 (by omega) (by omega)]; omega
    have hg := arowAt hil
    have hok : listOne m.list i = false → AV.r (RV.b false) = AV.bo (monB m) := fun h => by unfold monB listB; rw [allB_false hil h]; simp
    have hst : listOne m.list i = true → i + 1 ≤ m.list.length ∧ ∀ j, j < i + 1 → listOne m.list j = true := fun h => ⟨hil, lt_succ_all hI h⟩
    obtain ⟨fa, fb⟩ := hf.a _ (List.getElem_mem hil)
    rw [← assocAt_eq hil] at fa fb
    simp only [Int.toNat_natCast, hg, Assoc.row, Assoc.cellsX, hm, go_sem, ↓reduceIte]
    repeat' first | refine And.intro ?_ ?_ | intro _
    all_goals first
      | omega
      | rfl
      | skip
    refine call_pure (hP ▸ s_implAssocValid (assocAt m.list i) fa fb) rfl rfl ?_
    simp only [Int.toNat_natCast, hg, Assoc.row, Assoc.cellsX, hm, go_sem, ↓reduceIte]
    repeat' first | refine And.intro ?_ ?_ | intro _
    all_goals first
      | omega
      | rfl
      | (refine hok ?_; simp [listOne, *]; done)
      | (rename_i hr; obtain ⟨_, _, rfl⟩ := List.mem_map.1 hr; rfl)
      | skip
    rename_i hav hs0 _
    have htl : (List.take i (m.list.map Assoc.row)).length = i := by rw [List.length_take, List.length_map]; omega
    rw [htl]
    refine lp_wpc (α := Nat) (fun k => ⟨[(1, .ptr 0 0 0), (4, .ptr 1 0 0), (22, .r (.ro none (m.list.map Assoc.row))), (23, .i m.list.length), (24, .i i), (40, .r (.ro none ((m.list.map Assoc.row).take i))), (41, .i i), (42, .i k)], [(0, .var [.i m.records, .r (.ro none (m.list.map Assoc.row)), .r (.ro none (m.found.map Fnd.row))]), (1, .var ((assocAt m.list i).row.map .r))], 2, []⟩)
      (fun k => k ≤ i ∧ ∀ j, j < k → pairB (assocAt m.list j) (assocAt m.list i).fr (assocAt m.list i).to = false) (fun k => i - k) 0 ⟨Nat.zero_le _, fun j hj => by omega⟩ (by simp only [Assoc.row, Assoc.cellsX, List.map_cons, List.map_nil]; (refine le_ev [] ?_; simp only [hm, go_sem, ↓reduceIte]; first | done | rfl | exact ⟨rfl, rfl⟩)) ?_
    rintro k ⟨hk, hK⟩
    unfold pc104l0
    rcases Nat.lt_or_ge k i with hki | hki
    · have hwk : IntKind.i64.wrap ((k : Int) + 1) = ((k + 1 : Nat) : Int) := by rw [wrap64 (by omega) (by omega)]; omega
      have hgk := take_at hki hi
      simp only [Int.toNat_natCast, htl, hgk, Assoc.row, Assoc.cellsX, List.map_cons, List.map_nil, hm, go_sem, ↓reduceIte]
      repeat' first | refine And.intro ?_ ?_ | intro _
      all_goals first
        | omega
        | rfl
        | skip
      refine call_pure (hP ▸ s_samePorts (assocAt m.list k) _ _ _ _) rfl rfl ?_
      simp only [Int.toNat_natCast, htl, hgk, Assoc.row, Assoc.cellsX, hwk, hm, go_sem, ↓reduceIte]
      repeat' first | refine And.intro ?_ ?_ | intro _
      all_goals first
        | omega
        | (rename_i hpp; refine hok ?_; have := allB_false (p := fun k => !pairB (assocAt m.list k) (assocAt m.list i).fr (assocAt m.list i).to) hki (by simp [hpp]); simp [listOne, this]; done)
        | (rename_i hpp; refine ⟨k + 1, ⟨hki, lt_succ' hK hpp⟩, by omega, ?_⟩; (refine le_ev [] ?_; simp only [hm, go_sem, ↓reduceIte]; first | done | rfl | exact ⟨rfl, rfl⟩))
    · have : k = i := by omega
      subst this
      have hall : allB k (fun j => !pairB (assocAt m.list j) (assocAt m.list k).fr (assocAt m.list k).to) = true := allB_true fun j hj => by rw [hK j hj]; rfl
      simp only [hw, hm, go_sem, ↓reduceIte]
      repeat' first | refine And.intro ?_ ?_ | intro _
      all_goals first
        | omega
        | (refine ⟨k + 1, hst ?_, by omega, ?_⟩
           · simp [listOne, *]
           · (refine le_ev [] ?_; simp only [hm, go_sem, ↓reduceIte]; first | done | rfl | exact ⟨rfl, rfl⟩))
  · have : i = m.list.length := by omega
    subst this
    have hfin : listB m.list = true := allB_true hI
    simp only [hm, go_sem, ↓reduceIte]
    repeat' first | refine And.intro ?_ ?_ | intro _
    all_goals first
      | omega
      | (refine ⟨_, ⟨rfl, hfin⟩, ?_⟩; (refine le_ev [] ?_; simp only [hm, go_sem, ↓reduceIte]; first | done | rfl | exact ⟨rfl, rfl⟩))
end Go.Cap

/- Contracts: finding associations, twice. -/
namespace Go.Cap
open Go Go.Proofs
set_option maxRecDepth 100000
set_option linter.unusedSimpArgs false
set_option linter.unusedVariables false
attribute [local irreducible] Call Run Spec Le

theorem findIx_lt {f t : Int} : ∀ {l : List Assoc} {i : Nat}, findIx f t l = some i → i < l.length ∧ pairB (assocAt l i) f t = true
  | [], i, h => by cases h
  | a :: l, i, h => by
    rw [findIx] at h
    split at h
    · rename_i hp
      cases h
      exact ⟨by simp, by simpa [assocAt] using hp⟩
    · cases hf : findIx f t l with
      | none => rw [hf] at h; cases h
      | some k =>
        rw [hf] at h
        cases h
        obtain ⟨h1, h2⟩ := findIx_lt hf
        exact ⟨by simpa using h1, by simpa [assocAt] using h2⟩
end Go.Cap

/- Contracts: marks that a law leaves in what the program returned. -/
namespace Go.Cap
open Go Go.Proofs
set_option maxRecDepth 100000
set_option linter.unusedSimpArgs false
set_option linter.unusedVariables false
attribute [local irreducible] Call Run Spec Le

def marks {α : Type} (f : Int → α) (w : Int) (k : Nat) (n : Int) : List α := (List.range k).map fun (i : Nat) => f (n + w * (i : Int))
end Go.Cap

/- Contracts: drawn texts and parts. -/
namespace Go.Cap
open Go Go.Proofs
set_option maxRecDepth 100000
set_option linter.unusedSimpArgs false
set_option linter.unusedVariables false
attribute [local irreducible] Call Run Spec Le

@[go_sem] theorem frzPH_rd (b n0 j : Nat) (code : List UInt8) (p : Int) (l : List (Nat × Blk)) : frzPH b n0 ((j, rdB code p) :: l) = (True ∧ frzPH b n0 l) := by
  simp only [rdB, frzPH, frzPB, frzP.frzPL, frzP, and_self]
@[go_sem] theorem frzH_rd (b : Nat) (L : List (List RV)) (j : Nat) (code : List UInt8) (p : Int) (l : List (Nat × Blk)) : frzH b L ((j, rdB code p) :: l) = (j, rdB code p) :: frzH b L l := (rfl)
end Go.Cap

/- Plain facts on assemblies: validity, what is told, what is left. -/
namespace Go.Cap
open Go Go.Proofs
set_option linter.unusedSimpArgs false
set_option linter.unusedVariables false

theorem restFrom_sub (p : List Nat) : ∀ (l : List Data) (i : Nat), (restFrom p i l).Sublist l
  | [], i => by simp [restFrom]
  | d :: l, i => by
    simp only [restFrom]
    split
    · exact (restFrom_sub p l (i + 1)).cons _
    · exact (restFrom_sub p l (i + 1)).cons_cons _
theorem takeOut_nlen (a : Asm) (p : List Nat) : (takeOut a p).next.length = a.next.length := by unfold takeOut; simp only; split <;> simp
/-- Settling, step by step. -/
inductive Stl : Asm → List Msg → Asm → List Msg → Prop
  | stop (a : Asm) (ms : List Msg) : due a = none → Stl a ms a ms
  | step (a : Asm) (ms : List Msg) (p : List Nat) (a' : Asm) (ms' : List Msg) : AsmOk a → due a = some p → Stl (takeOut a p) (ms ++ [msgOf a p]) a' ms' → Stl a ms a' ms'
theorem Stl.more {a a' : Asm} {ms ms' : List Msg} (h : Stl a ms a' ms') : ∃ t, ms' = ms ++ t ∧ (t = [] → a' = a) := by
  induction h with
  | stop a ms _ => exact ⟨[], by simp, fun _ => rfl⟩
  | step a ms p a' ms' ok hd _ ih =>
    obtain ⟨t, h1, _⟩ := ih
    exact ⟨msgOf a p :: t, by rw [h1, List.append_assoc]; rfl, fun h => by cases h⟩
end Go.Cap

/- Plain facts on settling: numbers, messages without order, bytes. -/
namespace Go.Cap
open Go Go.Proofs
set_option linter.unusedSimpArgs false
set_option linter.unusedVariables false

/-- A part that is a message by itself is told, if it has no order. -/
theorem Stl.loose {a a' : Asm} {ms ms' : List Msg} (h : Stl a ms a' ms') {d : Data} (h1 : d.first = true) (h2 : d.last = true) (h3 : d.loose = true) : (a.parts.map Data.tsn).Nodup → d ∈ a.parts → ⟨d.stream, d.ssn, true, d.text⟩ ∈ ms' := by
  induction h with
  | stop a ms hd =>
    intro hn hm
    exfalso
    obtain ⟨i, hi, rfl⟩ := List.getElem_of_mem hm
    have hda := dataAt_eq hi
    have hl : a.parts.length = (a.parts.length - 1) + 1 := by omega
    have hc : chain a.parts i = some [i] := by unfold chain; rw [hl, chainN, hda, if_pos h2]
    have hda2 : dueAt a i = some [i] := by unfold dueAt; rw [hda, if_pos (by simp [h1, h3]), hc]
    have key : ∀ l : List Nat, dueFrom a l = none → ∀ i ∈ l, dueAt a i = none := by
      intro l
      induction l with
      | nil => intro _ i hi; cases hi
      | cons x l ih =>
        intro h i hi
        rw [dueFrom] at h
        cases hx : dueAt a x with
        | some q => rw [hx] at h; cases h
        | none =>
          rw [hx] at h
          rcases List.mem_cons.1 hi with rfl | hi
          · exact hx
          · exact ih h i hi
    have := key _ hd i (List.mem_range.2 hi)
    rw [hda2] at this; cases this
  | step a ms p a' ms' ok hd st ih =>
    intro hn hm
    have hdo := due_ok ok hd
    obtain ⟨i, hi, rfl⟩ := List.getElem_of_mem hm
    have hda := dataAt_eq hi
    by_cases hip : i ∈ p
    · -- the chain is this part alone
      obtain ⟨j, hj, hdj⟩ := due_some hd
      have hp : p = [i] := by
        unfold dueAt at hdj
        split at hdj
        · rename_i hc
          unfold chain at hdj
          obtain ⟨l, hl⟩ : ∃ l, a.parts.length = l + 1 := ⟨a.parts.length - 1, by omega⟩
          rw [hl, chainN] at hdj
          split at hdj
          · cases hdj
            simp only [List.mem_singleton] at hip
            rw [hip]
          · rename_i hjl
            exfalso
            have hnf : ∀ (n k : Nat) (q : List Nat), chainN n a.parts k = some q → (dataAt a.parts k).first = false → ∀ x ∈ q, (dataAt a.parts x).first = false := by
              intro n
              induction n with
              | zero => intro k q h; cases h
              | succ n ihn =>
                intro k q h hk x hx
                rw [chainN] at h
                split at h
                · cases h; simp only [List.mem_singleton] at hx; rw [hx]; exact hk
                · cases hnx : nextIx a.parts k with
                  | none => rw [hnx] at h; cases h
                  | some y =>
                    rw [hnx] at h
                    simp only at h
                    have hyf : (dataAt a.parts y).first = false := by
                      unfold nextIx at hnx
                      split at hnx
                      · split at hnx
                        · cases hnx
                        · rename_i hcc
                          cases hnx
                          simp only [Bool.or_eq_true, not_or] at hcc
                          simpa using hcc.1
                      · cases hnx
                    cases hcn : chainN n a.parts y with
                    | none => rw [hcn] at h; cases h
                    | some t =>
                      rw [hcn] at h
                      cases h
                      rcases List.mem_cons.1 hx with rfl | hx
                      · exact hk
                      · exact ihn y t hcn hyf x hx
            cases hnx : nextIx a.parts j with
            | none => rw [hnx] at hdj; cases hdj
            | some y =>
              rw [hnx] at hdj
              simp only at hdj
              have hyf : (dataAt a.parts y).first = false := by
                unfold nextIx at hnx
                split at hnx
                · split at hnx
                  · cases hnx
                  · rename_i hcc
                    cases hnx
                    simp only [Bool.or_eq_true, not_or] at hcc
                    simpa using hcc.1
                · cases hnx
              cases hcn : chainN l a.parts y with
              | none => rw [hcn] at hdj; cases hdj
              | some t =>
                rw [hcn] at hdj
                cases hdj
                rcases List.mem_cons.1 hip with rfl | hip
                · rw [hda, h2] at hjl; exact hjl rfl
                · have := hnf _ _ _ hcn hyf i hip
                  rw [hda, h1] at this; cases this
        · cases hdj
      obtain ⟨t, ht, _⟩ := st.more
      rw [ht, List.append_assoc]
      refine List.mem_append_right _ (List.mem_append_left _ ?_)
      rw [hp]
      simp only [List.mem_singleton, msgOf, List.headD_cons, hda, textOfIx, List.flatMap_cons, List.flatMap_nil, List.append_nil, h3]
    · refine ih (hn.sublist ((restFrom_sub p a.parts 0).map _)) ?_
      show a.parts[i] ∈ restFrom p 0 a.parts
      have key : ∀ (l : List Data) (k j : Nat) (hj : j < l.length), k + j ∉ p → l[j] ∈ restFrom p k l := by
        intro l
        induction l with
        | nil => intro k j hj; simp at hj
        | cons x l ihl =>
          intro k j hj hnp
          rw [restFrom]
          cases j with
          | zero =>
            rw [if_neg (by simpa using hnp)]
            exact List.mem_cons_self ..
          | succ j =>
            have := ihl (k + 1) j (by simpa using hj) (by rw [Nat.add_assoc, Nat.add_comm 1 j]; exact hnp)
            split
            · exact this
            · exact List.mem_cons_of_mem _ this
      exact key a.parts 0 i hi (by rw [Nat.zero_add]; exact hip)
end Go.Cap

/- Plain facts on runs of assemblies: prefixes, numbers of messages. -/
namespace Go.Cap
open Go Go.Proofs
set_option linter.unusedSimpArgs false
set_option linter.unusedVariables false

theorem Stl.streams {a a' : Asm} {ms ms' : List Msg} (h : Stl a ms a' ms') : (∀ m ∈ ms, m.stream < a.next.length) → ∀ m ∈ ms', m.stream < a.next.length := by
  induction h with
  | stop a ms _ => exact fun h => h
  | step a ms p a' ms' ok hd _ ih =>
    intro h
    have hdo := due_ok ok hd
    rw [takeOut_nlen] at ih
    refine ih fun m hm => ?_
    rcases List.mem_append.1 hm with hm | hm
    · exact h m hm
    · simp only [List.mem_singleton] at hm
      subst hm
      obtain ⟨k0, pt, hp0⟩ : ∃ k0 pt, p = k0 :: pt := by cases p with
        | nil => exact absurd rfl hdo.ne
        | cons a b => exact ⟨a, b, rfl⟩
      have hk0 : k0 < a.parts.length := hdo.lt k0 (by rw [hp0]; simp)
      have := ok.stream _ (List.getElem_mem hk0)
      unfold msgOf
      rw [hp0]
      simp only [List.headD_cons, dataAt_eq hk0]
      exact this.2
end Go.Cap

/- Contracts: the packets of a talk (the reference's). -/
namespace Go.Cap
open Go Go.Proofs
set_option maxRecDepth 100000
set_option linter.unusedSimpArgs false
set_option linter.unusedVariables false
attribute [local irreducible] Call Run Spec Le

theorem s_l41PartsP (t : Talk) (byB : Bool) (hv : talkB t = true) : Spec Try.prog 76 0 [] [t.ro, .bo byB] (Plain fun r => r = .r (.ro none ((talkParts t byB).map Data.row))) := by
  have := s_l41Parts t byB hv
  rw [← List.length_map (f := Data.row)] at this
  exact this.dataP
theorem s_l41Packet (t : Talk) (byB : Bool) (c : Chunk) : Spec Try.prog 80 0 [] [t.ro, .bo byB, .r (.ro none [c.row])] (fun r _ _ _ => r = (onePk t byB c).ro) := by
  refine mk80 rfl fun c hP hm => ?_
  unfold pc80 Talk.ro Talk.av onePk
  cases byB <;> simp only [hm, go_sem, ↓reduceIte]
  all_goals rfl
theorem s_l41One (t : Talk) (byB : Bool) (k : Int) : Spec Try.prog 81 0 [] [t.ro, .bo byB, .i k] (fun r _ _ _ => r = (onePk t byB ⟨k, 0, []⟩).ro) := by
  refine mk81 rfl fun c hP hm => ?_
  unfold pc81 Talk.ro Talk.av
  simp only [hm, go_sem, ↓reduceIte]
  refine call_frz 2 rfl rfl (by simp only [go_sem, ↓reduceIte]) ?_
  simp only [hm, go_sem, ↓reduceIte]
  refine call_data (hP ▸ s_l41Packet t byB ⟨k, 0, []⟩) rfl rfl ?_
  simp only [Packet.ro, hm, go_sem, ↓reduceIte]
theorem onePk_av (t : Talk) (b : Bool) (c : Chunk) : (onePk t b c).ro = .agg [.i (onePk t b c).fr, .i (onePk t b c).to, .i (onePk t b c).tag, .r (.ro none [c.row])] := by
  cases b <;> rfl
theorem onePk_row (t : Talk) (b : Bool) (c : Chunk) : (onePk t b c).row = [.n .i64 (onePk t b c).fr, .n .i64 (onePk t b c).to, .n .i64 (onePk t b c).tag, .ro none [c.row]] := by
  cases b <;> rfl
theorem s_l41Hello (t : Talk) (hv : talkB t = true) : Spec Try.prog 75 0 [] [t.ro] (New1 (.sl 0 0 4) 4 ((hello t).map Packet.row)) := by
  refine Spec.new1 (r0 := .sl 0 0 4) (Q := fun r hp _ _ => ∃ b, r = .sl b 0 4 ∧ hget hp b = some (.row 4 ((hello t).map Packet.row))) ?_ (fun r hp nx gs h => h) (fun f g h => by simp only [go_sem, h])
  have hi := init_ok hv
  refine mk75 rfl fun c hP hm => ?_
  unfold pc75 Talk.ro Talk.av
  simp only [hm, go_sem, ↓reduceIte]
  refine call_data (hP ▸ s_specInitPut t.a false (hi false)) rfl rfl ?_
  simp only [Chunk.av, hm, go_sem, ↓reduceIte]
  refine call_data (hP ▸ s_specInitPut t.b true (hi true)) rfl rfl ?_
  simp only [Chunk.av, hm, go_sem, ↓reduceIte]
  refine call_frz 3 rfl rfl (by simp only [go_sem, ↓reduceIte]) ?_
  simp only [hm, go_sem, ↓reduceIte]
  refine call_data (hP ▸ s_l41Packet t false (initPut t.a false)) rfl rfl ?_
  simp only [onePk, Packet.ro, List.map_cons, List.map_nil, hm, go_sem, ↓reduceIte]
  refine call_frz 5 rfl rfl (by simp only [go_sem, ↓reduceIte]) ?_
  simp only [hm, go_sem, ↓reduceIte]
  refine call_data (hP ▸ s_l41Packet t true (initPut t.b true)) rfl rfl ?_
  simp only [onePk, Packet.ro, List.map_cons, List.map_nil, hm, go_sem, ↓reduceIte]
  refine call_data (hP ▸ s_l41One t false 10) rfl rfl ?_
  simp only [onePk, Packet.ro, List.map_cons, List.map_nil, hm, go_sem, ↓reduceIte]
  refine call_data (hP ▸ s_l41One t true 11) rfl rfl ?_
  simp only [onePk, Packet.ro, List.map_cons, List.map_nil, hm, go_sem, ↓reduceIte]
  exact ⟨6, rfl, rfl⟩
theorem s_specTalkPackets (t : Talk) (hl : t.says.length ≤ 1048576) (hx : ∀ s ∈ t.says, s.text.length ≤ 1048576) : Spec Try.prog 35 0 [] [t.ro] (Plain fun r => r = .r (.ro none ((talkPk t).map Packet.row))) := by
  refine Spec.data1 (sz := 4) (Q := fun r hp _ _ => ∃ b, r = .sl b 0 ((talkPk t).map Packet.row).length ∧ hget hp b = some (.row 4 ((talkPk t).map Packet.row))) ?_ (fun r hp nx gs h => h)
  refine mr35 rfl fun c hP hm => ?_
  unfold pc35 Talk.ro Talk.av
  refine run_seq (run_wpc _ _ _ _ _ ?_)
  simp only [hm, go_sem, ↓reduceIte]
  refine run_seq (run_wpc _ _ _ _ _ ?_)
  simp only [hm, go_sem, ↓reduceIte]
  refine call_pure (hP ▸ s_specTalkValid t hl hx) rfl rfl ?_
  by_cases hv : talkB t = true
  rotate_left
  · have hv' : talkB t = false := by simpa using hv
    have e : talkPk t = [] := by unfold talkPk; rw [if_neg hv]
    simp only [hv', e, hm, go_sem, ↓reduceIte]
    exact ⟨1, rfl, rfl⟩
  obtain ⟨hsz, hlen, hsays, hta, htb, _, _⟩ := talk_ok hv
  have hz : t.size = (t.size.toNat : Int) := by omega
  have hz1 : 1 ≤ t.size.toNat ∧ t.size.toNat ≤ 20 := by omega
  simp only [hv, hm, go_sem, ↓reduceIte]
  refine run_seq (run_wpc _ _ _ _ _ ?_)
  simp only [hm, go_sem, ↓reduceIte]
  refine call_new1p (hP ▸ s_l41Hello t hv) rfl ?_
  simp only [hm, go_sem, ↓reduceIte]
  refine run_seq (run_wpc _ _ _ _ _ ?_)
  simp only [hm, go_sem, ↓reduceIte]
  refine call_dataP (hP ▸ s_l41PartsP t false hv) rfl rfl ?_
  simp only [hm, go_sem, ↓reduceIte]
  refine run_seq (run_wpc _ _ _ _ _ ?_)
  simp only [hm, go_sem, ↓reduceIte]
  refine call_dataP (hP ▸ s_l41PartsP t true hv) rfl rfl ?_
  simp only [hm, go_sem, ↓reduceIte]
  refine run_seq (run_wpc _ _ _ _ _ ?_)
  simp only [hm, go_sem, ↓reduceIte]
  have hal := all_len hv
  have hmany : ∀ i (h : i < t.says.length), ((t.says[i].text.length : Int) + t.size - 1) / t.size = ((manyN t.says[i].text.length t.size.toNat : Nat) : Int) := fun i h => by
    obtain ⟨b1, b2, _⟩ := hsays _ (List.getElem_mem h)
    unfold manyN
    rw [hz, Int.toNat_natCast, Int.natCast_ediv]
    congr 1; omega
  refine run_exit 0 (fun t0 => t0 = ⟨[(1, .ptr 0 0 0), (3, .sl 1 0 (hello t ++ saysPk t t.all).length)], [(1, .row 4 ((hello t ++ saysPk t t.all).map Packet.row)), (0, .var [.i t.fr, .i t.to, .i t.a.tag, .i t.a.window, .i t.a.streams, .i t.a.tsn, .i t.b.tag, .i t.b.window, .i t.b.streams, .i t.b.tsn, .i t.size, .r (.ro none (t.says.map Say.row))])], 2, []⟩) ?_ ?_
  · refine lp_wpc (α := Nat) (fun i => ⟨[(1, .ptr 0 0 0), (3, .sl 1 0 (hello t ++ saysPk t (t.all.take (t.q i))).length), (4, .r (.ro none ((sideL false (t.all.drop (t.q i))).map Data.row))), (5, .r (.ro none ((sideL true (t.all.drop (t.q i))).map Data.row))), (6, .i i)],
        [(1, .row 4 ((hello t ++ saysPk t (t.all.take (t.q i))).map Packet.row)), (0, .var [.i t.fr, .i t.to, .i t.a.tag, .i t.a.window, .i t.a.streams, .i t.a.tsn, .i t.b.tag, .i t.b.window, .i t.b.streams, .i t.b.tsn, .i t.size, .r (.ro none (t.says.map Say.row))])], 2, []⟩)
      (fun i => i ≤ t.says.length) (fun i => t.says.length - i) 0 (Nat.zero_le _) (by rw [talk_q_zero, List.drop_zero, List.take_zero, talk_side hv, talk_side hv]; simp only [saysPk, List.flatMap_nil, List.append_nil, hello, List.length_cons, List.length_nil]; (refine le_ev [] ?_; simp only [hm, go_sem, ↓reduceIte]; first | done | rfl | exact ⟨rfl, rfl⟩)) ?_
    intro i hi
    unfold pc35l1
    rcases Nat.lt_or_ge i t.says.length with hil | hil
    · have hw : IntKind.i64.wrap ((i : Int) + 1) = ((i + 1 : Nat) : Int) := by rw [wrap64 (by omega) (by omega)]; omega
      have hg := getD_map (f := Say.row) hil
      obtain ⟨hq1, hq2⟩ := talk_q hil
      have hqe := talk_q_le (show i + 1 ≤ t.says.length from hil)
      have hsay := hsays _ (List.getElem_mem hil)
      have hmi := hmany i hil
      generalize hsd : t.says[i] = s at hg hq1 hq2 hsay hmi
      obtain ⟨b1, b2, _⟩ := hsay
      simp only [Int.toNat_natCast, hg, Say.row, hm, go_sem, ↓reduceIte]
      repeat' first | refine And.intro ?_ ?_ | intro _ | (refine call_pure (hP ▸ s_l41Many s.text t.size (by omega)) rfl rfl ?_; simp only [Int.toNat_natCast, hg, Say.row, hmi, hm, go_sem, ↓reduceIte])
      all_goals first
        | omega
        | rfl
        | skip
      refine lp_wpc (α := Nat) (fun q => ⟨[(1, .ptr 0 0 0), (3, .sl 1 0 ((hello t).length + (saysPk t (t.all.take q)).length)), (4, .r (.ro none ((sideL false (t.all.drop q)).map Data.row))), (5, .r (.ro none ((sideL true (t.all.drop q)).map Data.row))), (6, .i i), (7, .bo s.byB), (8, .i (t.q (i + 1) - q : Nat))],
          [(1, .row 4 ((hello t ++ saysPk t (t.all.take q)).map Packet.row)), (0, .var [.i t.fr, .i t.to, .i t.a.tag, .i t.a.window, .i t.a.streams, .i t.a.tsn, .i t.b.tag, .i t.b.window, .i t.b.streams, .i t.b.tsn, .i t.size, .r (.ro none (t.says.map Say.row))])], 2, []⟩)
        (fun q => t.q i ≤ q ∧ q ≤ t.q (i + 1)) (fun q => t.q (i + 1) - q) (t.q i) ⟨Nat.le_refl _, by omega⟩ (by rw [hq1, Nat.add_sub_cancel_left]; (refine le_ev [] ?_; simp only [hm, go_sem, ↓reduceIte]; first | done | rfl | exact ⟨rfl, rfl⟩)) ?_
      rintro q ⟨hqa, hqb⟩
      unfold pc35l0
      rcases Nat.lt_or_ge q (t.q (i + 1)) with hql | hql
      · have hqal : q < t.all.length := by omega
        have hdt := side_drop hqal true
        have hdf := side_drop hqal false
        have hpk := saysPk_take (t := t) hqal
        have hbb := hq2 q hqal hqa hql
        have hdok := talkAll_data hv (List.getElem_mem hqal)
        have htsn := (data_ok hdok).1
        have hwk : IntKind.i64.wrap (((t.q (i + 1) - q : Nat) : Int) - 1) = ((t.q (i + 1) - (q + 1) : Nat) : Int) := by rw [wrap64 (by omega) (by omega)]; omega
        have hsl : (saysPk t (t.all.take q)).length = 2 * q := by rw [saysPk_len, List.length_take]; omega
        have hsl2 : (saysPk t (t.all.take (q + 1))).length = 2 * (q + 1) := by rw [saysPk_len, List.length_take]; omega
        generalize hx : t.all[q] = x at hdt hdf hpk hbb hdok htsn
        obtain ⟨xb, d⟩ := x
        simp only at hdt hdf hpk hbb hdok htsn
        have hln : ((t.q (i + 1) - q : Nat) : Int) > 0 := by omega
        have hh : (hello t).length = 4 := rfl
        have hrw : List.take ((hello t).length + (saysPk t (t.all.take q)).length) ((hello t ++ saysPk t (t.all.take q)).map Packet.row) = (hello t ++ saysPk t (t.all.take q)).map Packet.row := List.take_of_length_le (by rw [List.length_map, List.length_append]; exact Nat.le_refl _)
        cases xb
        all_goals
          simp only [if_true, if_false, Bool.false_eq_true, Bool.true_eq_false] at hdt hdf
          simp only [← hbb, hdt, hdf, List.map_cons, Data.row, hwk, Int.toNat_natCast, hm, go_sem, ↓reduceIte]
          repeat' first | refine And.intro ?_ ?_ | intro _
          all_goals first
            | omega
            | rfl
            | (rename_i hr
               first
                 | (rcases List.mem_cons.1 hr with rfl | hr <;> first | rfl | (obtain ⟨_, _, rfl⟩ := List.mem_map.1 hr; rfl))
                 | (rcases hr with rfl | hr <;> first | rfl | (obtain ⟨_, _, rfl⟩ := List.mem_map.1 hr; rfl)))
            | skip
          rw [take_map_len]
          refine call_data (hP ▸ s_specDataPut d hdok) rfl rfl ?_
          simp only [Chunk.av, hm, go_sem, ↓reduceIte]
          refine call_data (hP ▸ s_specSackPut0 d.tsn htsn) rfl rfl ?_
          simp only [Chunk.av, hm, go_sem, ↓reduceIte]
          repeat' first
            | refine And.intro ?_ ?_
            | (refine call_frz 5 rfl rfl (by simp only [go_sem, ↓reduceIte]) ?_; simp only [hm, go_sem, ↓reduceIte]; refine call_data (hP ▸ s_l41Packet t true (dataPut d)) rfl rfl ?_; simp only [onePk_av, hm, go_sem, ↓reduceIte])
            | (refine call_frz 5 rfl rfl (by simp only [go_sem, ↓reduceIte]) ?_; simp only [hm, go_sem, ↓reduceIte]; refine call_data (hP ▸ s_l41Packet t true (sackPut ⟨d.tsn, []⟩)) rfl rfl ?_; simp only [onePk_av, hm, go_sem, ↓reduceIte])
            | (refine call_frz 5 rfl rfl (by simp only [go_sem, ↓reduceIte]) ?_; simp only [hm, go_sem, ↓reduceIte]; refine call_data (hP ▸ s_l41Packet t false (dataPut d)) rfl rfl ?_; simp only [onePk_av, hm, go_sem, ↓reduceIte])
            | (refine call_frz 5 rfl rfl (by simp only [go_sem, ↓reduceIte]) ?_; simp only [hm, go_sem, ↓reduceIte]; refine call_data (hP ▸ s_l41Packet t false (sackPut ⟨d.tsn, []⟩)) rfl rfl ?_; simp only [onePk_av, hm, go_sem, ↓reduceIte])
            | (refine call_frz 6 rfl rfl (by simp only [go_sem, ↓reduceIte]) ?_; simp only [hm, go_sem, ↓reduceIte]; refine call_data (hP ▸ s_l41Packet t true (dataPut d)) rfl rfl ?_; simp only [onePk_av, hm, go_sem, ↓reduceIte])
            | (refine call_frz 6 rfl rfl (by simp only [go_sem, ↓reduceIte]) ?_; simp only [hm, go_sem, ↓reduceIte]; refine call_data (hP ▸ s_l41Packet t true (sackPut ⟨d.tsn, []⟩)) rfl rfl ?_; simp only [onePk_av, hm, go_sem, ↓reduceIte])
            | (refine call_frz 6 rfl rfl (by simp only [go_sem, ↓reduceIte]) ?_; simp only [hm, go_sem, ↓reduceIte]; refine call_data (hP ▸ s_l41Packet t false (dataPut d)) rfl rfl ?_; simp only [onePk_av, hm, go_sem, ↓reduceIte])
            | (refine call_frz 6 rfl rfl (by simp only [go_sem, ↓reduceIte]) ?_; simp only [hm, go_sem, ↓reduceIte]; refine call_data (hP ▸ s_l41Packet t false (sackPut ⟨d.tsn, []⟩)) rfl rfl ?_; simp only [onePk_av, hm, go_sem, ↓reduceIte])
            | (refine call_frz 7 rfl rfl (by simp only [go_sem, ↓reduceIte]) ?_; simp only [hm, go_sem, ↓reduceIte]; refine call_data (hP ▸ s_l41Packet t true (dataPut d)) rfl rfl ?_; simp only [onePk_av, hm, go_sem, ↓reduceIte])
            | (refine call_frz 7 rfl rfl (by simp only [go_sem, ↓reduceIte]) ?_; simp only [hm, go_sem, ↓reduceIte]; refine call_data (hP ▸ s_l41Packet t true (sackPut ⟨d.tsn, []⟩)) rfl rfl ?_; simp only [onePk_av, hm, go_sem, ↓reduceIte])
            | (refine call_frz 7 rfl rfl (by simp only [go_sem, ↓reduceIte]) ?_; simp only [hm, go_sem, ↓reduceIte]; refine call_data (hP ▸ s_l41Packet t false (dataPut d)) rfl rfl ?_; simp only [onePk_av, hm, go_sem, ↓reduceIte])
            | (refine call_frz 7 rfl rfl (by simp only [go_sem, ↓reduceIte]) ?_; simp only [hm, go_sem, ↓reduceIte]; refine call_data (hP ▸ s_l41Packet t false (sackPut ⟨d.tsn, []⟩)) rfl rfl ?_; simp only [onePk_av, hm, go_sem, ↓reduceIte])
          all_goals first
            | omega
            | (refine ⟨q + 1, ⟨by omega, by omega⟩, by omega, ?_⟩
               rw [hrw, hpk, hwk]
               simp only [List.map_append, List.append_assoc, List.map_cons, List.map_nil, onePk_row, List.length_append, List.length_cons, List.length_nil, Nat.add_assoc, Bool.not_true, Bool.not_false]
               (refine le_ev [(0, 0), (1, 1)] ?_; simp only [hm, go_sem, ↓reduceIte]; first | done | rfl | exact ⟨rfl, rfl⟩))
      · have : q = t.q (i + 1) := by omega
        subst this
        simp only [hw, Nat.sub_self, hm, go_sem, ↓reduceIte]
        repeat' first | refine And.intro ?_ ?_ | intro _
        all_goals first
          | omega
          | (refine ⟨i + 1, hil, by omega, ?_⟩; (refine le_ev [] ?_; simp only [hm, go_sem, ↓reduceIte]; first | done | rfl | exact ⟨rfl, rfl⟩))
    · have : i = t.says.length := by omega
      subst this
      rw [talk_q_end, List.take_length]
      simp only [hm, go_sem, ↓reduceIte]
      repeat' first | refine And.intro ?_ ?_ | intro _
      all_goals first
        | omega
        | (refine ⟨_, rfl, ?_⟩; (refine le_ev [] ?_; simp only [hm, go_sem, ↓reduceIte]; first | done | rfl | exact ⟨rfl, rfl⟩))
  rintro t0 rfl
  refine run_wpc _ _ _ _ _ ?_
  simp only [hm, go_sem, ↓reduceIte]
  have hh : (hello t).length = 4 := rfl
  have hsl : (saysPk t t.all).length = 2 * t.all.length := saysPk_len t t.all
  have hrw : List.take ((hello t).length + (saysPk t t.all).length) ((hello t ++ saysPk t t.all).map Packet.row) = (hello t ++ saysPk t t.all).map Packet.row := List.take_of_length_le (by rw [List.length_map, List.length_append]; exact Nat.le_refl _)
  have hpk : talkPk t = hello t ++ saysPk t t.all ++ bye t := by unfold talkPk; rw [if_pos hv]
  refine call_data (hP ▸ s_l41One t false 7) rfl rfl ?_
  simp only [onePk_av, hm, go_sem, ↓reduceIte]
  repeat' first
    | refine And.intro ?_ ?_
    | (refine call_data (hP ▸ s_l41One t true 8) rfl rfl ?_; simp only [onePk_av, hm, go_sem, ↓reduceIte])
    | (refine call_data (hP ▸ s_l41One t false 14) rfl rfl ?_; simp only [onePk_av, hm, go_sem, ↓reduceIte])
  all_goals first
    | omega
    | rfl
    | (rw [hpk, hrw]
       refine ⟨1, ?_, ?_⟩
       · simp [bye, Nat.add_assoc]
       · simp only [go_sem, ↓reduceIte, List.map_append, bye, List.map_cons, List.map_nil, onePk_row])
end Go.Cap

/- Contracts: the packets of a talk (the program's). -/
namespace Go.Cap
open Go Go.Proofs
set_option maxRecDepth 100000
set_option linter.unusedSimpArgs false
set_option linter.unusedVariables false
attribute [local irreducible] Call Run Spec Le

abbrev Talk.cells (t : Talk) : List AV := [.i t.fr, .i t.to, .i t.a.tag, .i t.a.window, .i t.a.streams, .i t.a.tsn, .i t.b.tag, .i t.b.window, .i t.b.streams, .i t.b.tsn, .i t.size, .r (.ro none (t.says.map Say.row))]
/-- A packet as it is sent. -/
def sendPk (t : Talk) (byB : Bool) (c : Chunk) (tag : Int) : Packet := if byB then ⟨t.to, t.fr, tag, [c]⟩ else ⟨t.fr, t.to, tag, [c]⟩
theorem s_send (t : Talk) (byB : Bool) (c : Chunk) (tag : Int) (L : List (List RV)) (hL : L.length ≤ 100000) :
    Spec Try.prog 84 3 [(0, .var t.cells), (1, .var [.sl 2 0 L.length]), (2, .row 4 L)] [.bo byB, c.av, .i tag, .ptr 0 0 0, .ptr 1 0 0]
      (fun r hp nx gs => r = .tup [] ∧ hp = [(0, .var t.cells), (1, .var [.sl 3 0 (L.length + 1)]), (3, .row 4 (L ++ [(sendPk t byB c tag).row]))] ∧ nx = 4 ∧ gs = []) := by
  refine Spec.le (Q := fun r hp nx gs => r = .tup [] ∧ ∃ b, b ≠ 0 ∧ b ≠ 1 ∧ hget hp 0 = some (.var t.cells) ∧ hget hp 1 = some (.var [.sl b 0 (L.length + 1)]) ∧ hget hp b = some (.row 4 (L ++ [(sendPk t byB c tag).row]))) ?_ ?_
  · refine mr84 rfl fun cx hP hm => ?_
    unfold pc84 Chunk.av Talk.cells
    refine run_seq (run_wpc _ _ _ _ _ ?_)
    simp only [hm, go_sem, ↓reduceIte]
    refine run_seq (run_wpc _ _ _ _ _ ?_)
    simp only [hm, go_sem, ↓reduceIte]
    refine run_frz 4 rfl (by first | (simp only [hm, List.length_map, go_sem, ↓reduceIte]; done) | (simp only [hm, List.length_map, go_sem, ↓reduceIte]; omega)) (by first | (simp only [hm, List.length_map, go_sem, ↓reduceIte]; done) | (simp only [hm, List.length_map, go_sem, ↓reduceIte]; omega)) ?_; simp only [hm, take_map_len, List.drop_zero, go_sem, ↓reduceIte]
    refine run_wpc _ _ _ _ _ ?_
    have hrw : List.take L.length L = L := List.take_length
    unfold sendPk
    cases byB
    · simp only [hrw, Bool.false_eq_true, if_false, Packet.row, List.map_cons, List.map_nil, Chunk.row, hm, go_sem, ↓reduceIte]
      refine ⟨by omega, _, ?_, ?_, rfl, rfl⟩
      all_goals decide
    · simp only [hrw, if_true, Packet.row, List.map_cons, List.map_nil, Chunk.row, hm, go_sem, ↓reduceIte]
      refine ⟨by omega, _, ?_, ?_, rfl, rfl⟩
      all_goals decide
  · rintro r hp nx gs ⟨rfl, b, n0, n1, h0, h1, h2⟩
    refine ⟨.tup [], _, 4, [], ⟨rfl, rfl, rfl, rfl⟩, fun cx hc => ?_⟩
    refine le_ev [(3, b)] ?_
    simp only [hc, go_sem, ↓reduceIte, h0, h1, h2]
    rintro (h | h)
    · exact n1 h
    · exact n0 h
theorem c_send {cx : Cx} (hP : cx.P = Try.prog) {t : Talk} {byB : Bool} {c : Chunk} {tag : Int} {L : List (List RV)} (hL : L.length ≤ 100000) {s : St} {K : AV → St → Prop} (b0 b1 b2 : Nat) (hnd : [b0, b1, b2].Nodup)
    (h0 : hget s.hp b0 = some (.var t.cells)) (h1 : hget s.hp b1 = some (.var [.sl b2 0 L.length])) (h2 : hget s.hp b2 = some (.row 4 L))
    (hK : K (.tup []) ⟨s.sl, (b0, .var t.cells) :: (b1, .var [.sl s.nx 0 (L.length + 1)]) :: (s.nx, .row 4 (L ++ [(sendPk t byB c tag).row])) :: hdel (hdel (hdel s.hp b0) b1) b2, s.nx + 1, s.gs⟩) : Call cx 84 [.bo byB, c.av, .i tag, .ptr b0 0 0, .ptr b1 0 0] s K := by
  refine call_spec [b0, b1, b2] (hP ▸ s_send t byB c tag L hL) hnd ?_ ?_ ?_ fun r hp' nx' gs' h => ?_
  · intro p hp
    simp only [List.mem_cons, List.mem_singleton, List.not_mem_nil, or_false] at hp
    rcases hp with rfl | rfl | rfl
    · exact ⟨by simp, by rw [show idf [b0, b1, b2] s.nx 0 = b0 from rfl, h0]; rfl⟩
    · exact ⟨by simp, by rw [show idf [b0, b1, b2] s.nx 1 = b1 from rfl, h1]; rfl⟩
    · exact ⟨by simp, by rw [show idf [b0, b1, b2] s.nx 2 = b2 from rfl, h2]; rfl⟩
  · intro j hj
    have : j = 0 ∨ j = 1 ∨ j = 2 := by simp at hj; omega
    rcases this with rfl | rfl | rfl
    · exact ⟨_, List.mem_cons_self ..⟩
    · exact ⟨_, List.mem_cons_of_mem _ (List.mem_cons_self ..)⟩
    · exact ⟨_, List.mem_cons_of_mem _ (List.mem_cons_of_mem _ (List.mem_cons_self ..))⟩
  · rfl
  · obtain ⟨rfl, rfl, rfl, rfl⟩ := h
    exact hK
theorem s_say (t : Talk) (byB : Bool) (c : Chunk) (L : List (List RV)) (hL : L.length ≤ 100000) :
    Spec Try.prog 85 4 [(0, .var t.cells), (1, .var [.sl 2 0 L.length]), (2, .row 4 L), (3, .var [.fn 84 [.ptr 0 0 0, .ptr 1 0 0]])] [.bo byB, c.av, .ptr 3 0 0, .ptr 0 0 0]
      (fun r hp nx gs => r = .tup [] ∧ hp = [(0, .var t.cells), (1, .var [.sl 4 0 (L.length + 1)]), (4, .row 4 (L ++ [(onePk t byB c).row])), (3, .var [.fn 84 [.ptr 0 0 0, .ptr 1 0 0]])] ∧ nx = 5 ∧ gs = []) := by
  refine Spec.le (Q := fun r hp nx gs => r = .tup [] ∧ ∃ b, b ≠ 0 ∧ b ≠ 1 ∧ b ≠ 3 ∧ hget hp 0 = some (.var t.cells) ∧ hget hp 1 = some (.var [.sl b 0 (L.length + 1)]) ∧ hget hp b = some (.row 4 (L ++ [(onePk t byB c).row])) ∧ hget hp 3 = some (.var [.fn 84 [.ptr 0 0 0, .ptr 1 0 0]])) ?_ ?_
  · refine mk85 rfl fun cx hP hm => ?_
    unfold pc85 Chunk.av Talk.cells
    cases byB
    · simp only [hm, go_sem, ↓reduceIte]
      refine c_send hP (t := t) (byB := false) (c := c) (tag := t.b.tag) hL 0 1 2 (by decide) rfl rfl rfl ?_
      simp only [hm, go_sem, ↓reduceIte]
      refine ⟨5, ?_⟩
      simp only [hm, go_sem, ↓reduceIte]
      rfl
    · simp only [hm, go_sem, ↓reduceIte]
      refine c_send hP (t := t) (byB := true) (c := c) (tag := t.a.tag) hL 0 1 2 (by decide) rfl rfl rfl ?_
      simp only [hm, go_sem, ↓reduceIte]
      refine ⟨5, ?_⟩
      simp only [hm, go_sem, ↓reduceIte]
      rfl
  · rintro r hp nx gs ⟨rfl, b, n0, n1, n3, h0, h1, h2, h3⟩
    refine ⟨.tup [], _, 5, [], ⟨rfl, rfl, rfl, rfl⟩, fun cx hc => ?_⟩
    refine le_ev [(4, b)] ?_
    simp only [hc, go_sem, ↓reduceIte, h0, h1, h2, h3]
    refine ⟨?_, fun h => n3 h.symm⟩
    rintro (h | h)
    · exact n1 h
    · exact n0 h
theorem c_say {cx : Cx} (hP : cx.P = Try.prog) {t : Talk} {byB : Bool} {c : Chunk} {L : List (List RV)} (hL : L.length ≤ 100000) {s : St} {K : AV → St → Prop} (b0 b1 b2 b3 : Nat) (hnd : [b0, b1, b2, b3].Nodup)
    (h0 : hget s.hp b0 = some (.var t.cells)) (h1 : hget s.hp b1 = some (.var [.sl b2 0 L.length])) (h2 : hget s.hp b2 = some (.row 4 L)) (h3 : hget s.hp b3 = some (.var [.fn 84 [.ptr b0 0 0, .ptr b1 0 0]]))
    (hK : K (.tup []) ⟨s.sl, (b0, .var t.cells) :: (b1, .var [.sl s.nx 0 (L.length + 1)]) :: (s.nx, .row 4 (L ++ [(onePk t byB c).row])) :: (b3, .var [.fn 84 [.ptr b0 0 0, .ptr b1 0 0]]) :: hdel (hdel (hdel (hdel s.hp b0) b1) b2) b3, s.nx + 1, s.gs⟩) : Call cx 85 [.bo byB, c.av, .ptr b3 0 0, .ptr b0 0 0] s K := by
  refine call_spec [b0, b1, b2, b3] (hP ▸ s_say t byB c L hL) hnd ?_ ?_ ?_ fun r hp' nx' gs' h => ?_
  · intro p hp
    simp only [List.mem_cons, List.mem_singleton, List.not_mem_nil, or_false] at hp
    rcases hp with rfl | rfl | rfl | rfl
    · exact ⟨by simp, by rw [show idf [b0, b1, b2, b3] s.nx 0 = b0 from rfl, h0]; rfl⟩
    · exact ⟨by simp, by rw [show idf [b0, b1, b2, b3] s.nx 1 = b1 from rfl, h1]; rfl⟩
    · exact ⟨by simp, by rw [show idf [b0, b1, b2, b3] s.nx 2 = b2 from rfl, h2]; rfl⟩
    · exact ⟨by simp, by rw [show idf [b0, b1, b2, b3] s.nx 3 = b3 from rfl, h3]; rfl⟩
  · intro j hj
    have : j = 0 ∨ j = 1 ∨ j = 2 ∨ j = 3 := by simp at hj; omega
    rcases this with rfl | rfl | rfl | rfl
    · exact ⟨_, List.mem_cons_self ..⟩
    · exact ⟨_, List.mem_cons_of_mem _ (List.mem_cons_self ..)⟩
    · exact ⟨_, List.mem_cons_of_mem _ (List.mem_cons_of_mem _ (List.mem_cons_self ..))⟩
    · exact ⟨_, List.mem_cons_of_mem _ (List.mem_cons_of_mem _ (List.mem_cons_of_mem _ (List.mem_cons_self ..)))⟩
  · rfl
  · obtain ⟨rfl, rfl, rfl, rfl⟩ := h
    exact hK
theorem s_partsOfP (t : Talk) (hv : talkB t = true) : Spec Try.prog 87 0 [] [t.ro] (Plain fun r => r = .r (.ro none ((talkLists t).map listRow))) := by
  have := s_partsOf t hv
  rw [← List.length_map (f := listRow)] at this
  exact this.dataP
def flatL (l : List (Bool × List Data)) : List (Bool × Data) := l.flatMap fun x => x.2.map fun d => (x.1, d)
theorem lists_all (z : Nat) (ta tb : Int) : ∀ (l : List Say) (f g : List Data), talkAll z ta tb l f g = flatL (lists z ta tb l f g)
  | [], f, g => rfl
  | s :: l, f, g => by
    simp only [talkAll, lists]
    split
    · rw [lists_all z ta tb l f]; rfl
    · rw [lists_all z ta tb l]; rfl
theorem talk_flat (t : Talk) : t.all = flatL (talkLists t) := lists_all _ _ _ _ _ _
theorem flatL_take {l : List (Bool × List Data)} {i : Nat} (h : i < l.length) : flatL (l.take (i + 1)) = flatL (l.take i) ++ l[i].2.map fun d => (l[i].1, d) := by
  rw [take_get h]
  unfold flatL
  rw [List.flatMap_append, List.flatMap_cons, List.flatMap_nil, List.append_nil]
theorem flatL_len {l : List (Bool × List Data)} (i : Nat) : (flatL (l.take i)).length ≤ (flatL l).length := by
  have : flatL l = flatL (l.take i) ++ flatL (l.drop i) := by
    unfold flatL
    rw [← List.flatMap_append, List.take_append_drop]
  rw [this, List.length_append]; omega
theorem flatL_mem {l : List (Bool × List Data)} {x : Bool × List Data} {d : Data} (h : x ∈ l) (hd : d ∈ x.2) : (x.1, d) ∈ flatL l := List.mem_flatMap.2 ⟨x, h, List.mem_map.2 ⟨d, hd, rfl⟩⟩
theorem saysPk_app (t : Talk) (a b : List (Bool × Data)) : saysPk t (a ++ b) = saysPk t a ++ saysPk t b := by unfold saysPk; rw [List.flatMap_append]
theorem s_implTalkPackets (t : Talk) (hl : t.says.length ≤ 1048576) (hx : ∀ s ∈ t.says, s.text.length ≤ 1048576) : Spec Try.prog 37 0 [] [t.ro] (Plain fun r => r = .r (.ro none ((talkPk t).map Packet.row))) := by
  by_cases hv : talkB t = true
  rotate_left
  · have e : talkPk t = [] := by unfold talkPk; rw [if_neg hv]
    rw [e]
    refine Spec.nilP ?_
    have hv' : talkB t = false := by simpa using hv
    refine mr37 rfl fun c hP hm => ?_
    unfold pc37 Talk.ro Talk.av
    refine run_seq (run_wpc _ _ _ _ _ ?_)
    simp only [hm, go_sem, ↓reduceIte]
    refine run_seq (run_wpc _ _ _ _ _ ?_)
    simp only [hm, go_sem, ↓reduceIte]
    refine call_pure (hP ▸ s_implTalkValid t (by omega)) rfl rfl ?_
    simp only [hv', hm, go_sem, ↓reduceIte]
  refine Spec.data1 (sz := 4) (Q := fun r hp _ _ => ∃ b, r = .sl b 0 ((talkPk t).map Packet.row).length ∧ hget hp b = some (.row 4 ((talkPk t).map Packet.row))) ?_ (fun r hp nx gs h => h)
  have hi := init_ok hv
  refine mr37 rfl fun c hP hm => ?_
  unfold pc37 Talk.ro Talk.av
  refine run_seq (run_wpc _ _ _ _ _ ?_)
  simp only [hm, go_sem, ↓reduceIte]
  refine run_seq (run_wpc _ _ _ _ _ ?_)
  simp only [hm, go_sem, ↓reduceIte]
  refine call_pure (hP ▸ s_implTalkValid t (by omega)) rfl rfl ?_
  simp only [hv, hm, go_sem, ↓reduceIte]
  refine run_seq (run_wpc _ _ _ _ _ ?_)
  simp only [hm, go_sem, ↓reduceIte]
  refine run_seq (run_wpc _ _ _ _ _ ?_)
  simp only [hm, go_sem, ↓reduceIte]
  refine run_seq (run_wpc _ _ _ _ _ ?_)
  simp only [hm, go_sem, ↓reduceIte]
  refine run_seq (run_wpc _ _ _ _ _ ?_)
  simp only [hm, go_sem, ↓reduceIte]
  refine call_data (hP ▸ s_implInitPut t.a false (hi false)) rfl rfl ?_
  simp only [Chunk.av, hm, go_sem, ↓reduceIte]
  refine run_seq (run_wpc _ _ _ _ _ ?_)
  simp only [hm, go_sem, ↓reduceIte]
  refine call_data (hP ▸ s_implInitPut t.b true (hi true)) rfl rfl ?_
  simp only [Chunk.av, hm, go_sem, ↓reduceIte]
  have hlist : (talkLists t).length ≤ 4 := by
    have : ∀ (l : List Say) (f g : List Data), (lists t.size.toNat t.a.tsn t.b.tsn l f g).length = l.length := by
      intro l
      induction l with
      | nil => intro f g; rfl
      | cons s l ih => intro f g; simp only [lists]; split <;> simp [ih]
    unfold talkLists
    rw [this]
    exact (talk_ok hv).2.1
  have hal := all_len hv
  refine run_seq (run_wpc _ _ _ _ _ ?_)
  simp only [hm, go_sem, ↓reduceIte]
  refine c_send hP (t := t) (byB := false) (c := initPut t.a false) (tag := 0) (L := []) (by simp) 0 2 1 (by decide) rfl rfl rfl ?_
  simp only [hm, go_sem, ↓reduceIte]
  refine run_seq (run_wpc _ _ _ _ _ ?_)
  simp only [hm, go_sem, ↓reduceIte]
  refine c_say hP (t := t) (byB := true) (c := initPut t.b true) (L := ((hello t).take 1).map Packet.row) (by simp [hello]) 0 2 6 3 (by decide) rfl rfl rfl rfl ?_
  simp only [hm, go_sem, ↓reduceIte]
  refine run_seq (run_wpc _ _ _ _ _ ?_)
  simp only [hm, go_sem, ↓reduceIte]
  refine c_say hP (t := t) (byB := false) (c := ⟨10, 0, []⟩) (L := ((hello t).take 2).map Packet.row) (by simp [hello]) 0 2 7 3 (by decide) rfl rfl rfl rfl ?_
  simp only [hm, go_sem, ↓reduceIte]
  refine run_seq (run_wpc _ _ _ _ _ ?_)
  simp only [hm, go_sem, ↓reduceIte]
  refine c_say hP (t := t) (byB := true) (c := ⟨11, 0, []⟩) (L := ((hello t).take 3).map Packet.row) (by simp [hello]) 0 2 8 3 (by decide) rfl rfl rfl rfl ?_
  simp only [hm, go_sem, ↓reduceIte]
  refine run_seq (run_wpc _ _ _ _ _ ?_)
  simp only [hm, go_sem, ↓reduceIte]
  refine call_dataP (hP ▸ s_partsOfP t hv) rfl rfl ?_
  simp only [hm, go_sem, ↓reduceIte]
  intro _
  have e0 : List.map Packet.row (List.take 3 (hello t)) ++ [(onePk t true ⟨11, 0, []⟩).row] = (hello t).map Packet.row := rfl
  have e1 : (List.take 3 (hello t)).length + 1 = (hello t).length := rfl
  have hh : (hello t).length = 4 := rfl
  rw [e0, e1]
  have hflat := talk_flat t
  have hfl : (flatL (talkLists t)).length ≤ 24 := by rw [← hflat]; exact hal
  have hok : ∀ x ∈ talkLists t, ∀ d ∈ x.2, dataB d = true := fun x hx d hd => talkAll_data hv (x := (x.1, d)) (by rw [hflat]; exact flatL_mem hx hd)
  refine run_exit 0 (fun t0 => t0 = ⟨[(3, .ptr 1 0 0), (5, .fn 85 [.ptr 3 0 0, .ptr 0 0 0])], [(0, .var t.cells), (1, .var [.sl 2 0 (hello t ++ saysPk t t.all).length]), (2, .row 4 ((hello t ++ saysPk t t.all).map Packet.row)), (3, .var [.fn 84 [.ptr 0 0 0, .ptr 1 0 0]])], 4, []⟩) ?_ ?_
  · refine lp_wpc (α := Nat) (fun i => ⟨[(3, .ptr 1 0 0), (5, .fn 85 [.ptr 3 0 0, .ptr 0 0 0]), (49, .r (.ro none ((talkLists t).map listRow))), (50, .i (talkLists t).length), (51, .i i)], [(0, .var t.cells), (1, .var [.sl 2 0 (hello t ++ saysPk t (flatL ((talkLists t).take i))).length]), (2, .row 4 ((hello t ++ saysPk t (flatL ((talkLists t).take i))).map Packet.row)), (3, .var [.fn 84 [.ptr 0 0 0, .ptr 1 0 0]])], 4, []⟩)
      (fun i => i ≤ (talkLists t).length) (fun i => (talkLists t).length - i) 0 (Nat.zero_le _) (by rw [List.take_zero]; simp only [flatL, List.flatMap_nil, saysPk, List.append_nil]; (refine le_ev [(0, 0), (1, 2), (2, 9), (3, 3)] ?_; simp only [hm, go_sem, ↓reduceIte]; first | done | rfl | exact ⟨rfl, rfl⟩)) ?_
    intro i hi
    unfold pc37l1
    rcases Nat.lt_or_ge i (talkLists t).length with hil | hil
    · have hw : IntKind.i64.wrap ((i : Int) + 1) = ((i + 1 : Nat) : Int) := by rw [wrap64 (by omega) (by omega)]; omega
      have hg := getD_map (f := listRow) hil
      have hft := flatL_take hil
      have hfle := flatL_len (l := talkLists t) (i + 1)
      have hxok := hok _ (List.getElem_mem hil)
      generalize (talkLists t)[i] = x at hg hft hxok
      rw [hft] at hfle
      simp only [Int.toNat_natCast, hg, listRow, hm, go_sem, ↓reduceIte]
      repeat' first | refine And.intro ?_ ?_ | intro _
      all_goals first
        | omega
        | rfl
        | skip
      refine lp_wpc (α := Nat) (fun k => ⟨[(3, .ptr 1 0 0), (5, .fn 85 [.ptr 3 0 0, .ptr 0 0 0]), (49, .r (.ro none ((talkLists t).map listRow))), (50, .i (talkLists t).length), (51, .i i), (55, .r (.ro none (x.2.map (tpRow x.1)))), (56, .i x.2.length), (57, .i k)], [(0, .var t.cells), (1, .var [.sl 2 0 (hello t ++ saysPk t (flatL ((talkLists t).take i) ++ (x.2.take k).map fun d => (x.1, d))).length]), (2, .row 4 ((hello t ++ saysPk t (flatL ((talkLists t).take i) ++ (x.2.take k).map fun d => (x.1, d))).map Packet.row)), (3, .var [.fn 84 [.ptr 0 0 0, .ptr 1 0 0]])], 4, []⟩)
        (fun k => k ≤ x.2.length) (fun k => x.2.length - k) 0 (Nat.zero_le _) (by rw [List.take_zero, List.map_nil, List.append_nil]; (refine le_ev [] ?_; simp only [hm, go_sem, ↓reduceIte]; first | done | rfl | exact ⟨rfl, rfl⟩)) ?_
      intro k hk
      unfold pc37l0
      rcases Nat.lt_or_ge k x.2.length with hkl | hkl
      · have hwk : IntKind.i64.wrap ((k : Int) + 1) = ((k + 1 : Nat) : Int) := by rw [wrap64 (by omega) (by omega)]; omega
        have hgk := getD_map (f := tpRow x.1) hkl
        have htk := take_get hkl
        have hd := hxok _ (List.getElem_mem hkl)
        generalize x.2[k] = d at hgk htk hd
        have htsn := (data_ok hd).1
        have hlen2 : (flatL ((talkLists t).take i) ++ (x.2.take k).map fun d => (x.1, d)).length ≤ 24 := by
          rw [List.length_append, List.length_map] at hfle ⊢
          rw [List.length_take]; omega
        have hso : (saysPk t (flatL ((talkLists t).take i) ++ (x.2.take k).map fun d => (x.1, d))).length ≤ 48 := by rw [saysPk_len]; omega
        have hnext : hello t ++ saysPk t (flatL ((talkLists t).take i) ++ (x.2.take (k + 1)).map fun d => (x.1, d)) = hello t ++ saysPk t (flatL ((talkLists t).take i) ++ (x.2.take k).map fun d => (x.1, d)) ++ [onePk t x.1 (dataPut d)] ++ [onePk t (!x.1) (sackPut ⟨d.tsn, []⟩)] := by
          rw [htk, List.map_append, ← List.append_assoc, saysPk_app t _ (List.map _ [d])]
          simp [saysPk]
        have hpl : (hello t ++ saysPk t (flatL ((talkLists t).take i) ++ (x.2.take k).map fun d => (x.1, d))).length ≤ 60 := by rw [List.length_append]; omega
        generalize hello t ++ saysPk t (flatL ((talkLists t).take i) ++ (x.2.take k).map fun d => (x.1, d)) = out at hnext hpl
        simp only [hwk, Int.toNat_natCast, hgk, tpRow, Data.row, hm, go_sem, ↓reduceIte]
        repeat' first | refine And.intro ?_ ?_ | intro _
        all_goals first
          | omega
          | rfl
          | skip
        refine call_data (hP ▸ s_implDataPut d hd) rfl rfl ?_
        simp only [Chunk.av, hm, go_sem, ↓reduceIte]
        refine call_data (hP ▸ s_implSackPut0 d.tsn htsn) rfl rfl ?_
        simp only [Chunk.av, hm, go_sem, ↓reduceIte]
        refine c_say hP (t := t) (byB := x.1) (c := dataPut d) (L := out.map Packet.row) (by rw [List.length_map]; omega) 0 1 2 3 (by decide) rfl (by rw [List.length_map]; rfl) rfl rfl ?_
        simp only [hm, go_sem, ↓reduceIte]
        refine c_say hP (t := t) (byB := !x.1) (c := sackPut ⟨d.tsn, []⟩) (L := (out ++ [onePk t x.1 (dataPut d)]).map Packet.row) (by rw [List.length_map, List.length_append]; simp; omega) 0 1 7 3 (by decide) rfl (by rw [List.length_map, List.length_append]; rfl) (by rw [List.map_append]; rfl) rfl ?_
        simp only [List.length_append, List.length_map, List.length_cons, List.length_nil, hm, go_sem, ↓reduceIte]
        refine ⟨k + 1, hkl, by omega, ?_⟩
        have hnl : (hello t).length + (saysPk t (flatL ((talkLists t).take i) ++ (x.2.take (k + 1)).map fun d => (x.1, d))).length = out.length + 1 + 1 := by rw [← List.length_append, hnext, List.length_append, List.length_append]; rfl
        try rw [hnl]
        rw [hnext, hwk]
        simp only [List.map_append, List.length_append, List.length_cons, List.length_nil, List.append_assoc, List.map_cons, List.map_nil]
        (refine le_ev [(0, 0), (1, 1), (2, 8), (3, 3)] ?_; simp only [hm, go_sem, ↓reduceIte]; first | done | rfl | exact ⟨rfl, rfl⟩)
      · have : k = x.2.length := by omega
        subst this
        rw [List.take_length, ← hft]
        simp only [hw, hm, go_sem, ↓reduceIte]
        repeat' first | refine And.intro ?_ ?_ | intro _
        all_goals first
          | omega
          | (refine ⟨i + 1, hil, by omega, ?_⟩; (refine le_ev [] ?_; simp only [hm, go_sem, ↓reduceIte]; first | done | rfl | exact ⟨rfl, rfl⟩))
    · have : i = (talkLists t).length := by omega
      subst this
      rw [List.take_length, ← hflat]
      simp only [hm, go_sem, ↓reduceIte]
      repeat' first | refine And.intro ?_ ?_ | intro _
      all_goals first
        | omega
        | (refine ⟨_, rfl, ?_⟩; (refine le_ev [] ?_; simp only [hm, go_sem, ↓reduceIte]; first | done | rfl | exact ⟨rfl, rfl⟩))
  rintro t0 rfl
  rw [if_pos rfl]
  have hpk : talkPk t = hello t ++ saysPk t t.all ++ bye t := by unfold talkPk; rw [if_pos hv]
  have hpl : (hello t ++ saysPk t t.all).length ≤ 60 := by rw [List.length_append, saysPk_len]; omega
  rw [hpk]
  generalize hello t ++ saysPk t t.all = out at hpl
  refine run_seq (run_wpc _ _ _ _ _ ?_)
  simp only [hm, go_sem, ↓reduceIte]
  refine c_say hP (t := t) (byB := false) (c := ⟨7, 0, []⟩) (L := out.map Packet.row) (by rw [List.length_map]; omega) 0 1 2 3 (by decide) rfl (by rw [List.length_map]; rfl) rfl rfl ?_
  simp only [hm, go_sem, ↓reduceIte]
  refine run_seq (run_wpc _ _ _ _ _ ?_)
  simp only [hm, go_sem, ↓reduceIte]
  refine c_say hP (t := t) (byB := true) (c := ⟨8, 0, []⟩) (L := (out ++ (bye t).take 1).map Packet.row) (by rw [List.length_map, List.length_append]; simp [bye]; omega) 0 1 4 3 (by decide) rfl (by rw [List.length_map, List.length_append]; rfl) (by rw [List.map_append]; rfl) rfl ?_
  simp only [hm, go_sem, ↓reduceIte]
  refine run_seq (run_wpc _ _ _ _ _ ?_)
  simp only [hm, go_sem, ↓reduceIte]
  refine c_say hP (t := t) (byB := false) (c := ⟨14, 0, []⟩) (L := (out ++ (bye t).take 2).map Packet.row) (by rw [List.length_map, List.length_append]; simp [bye]; omega) 0 1 5 3 (by decide) rfl (by rw [List.length_map, List.length_append]; rfl) (by simp only [go_sem, ↓reduceIte, List.map_append, List.append_assoc]; rfl) rfl ?_
  simp only [hm, go_sem, ↓reduceIte]
  refine run_wpc _ _ _ _ _ ?_
  simp only [hm, go_sem, ↓reduceIte]
  refine ⟨6, rfl, ?_⟩
  simp only [List.map_append, List.append_assoc, hm, go_sem, ↓reduceIte]
  rfl
end Go.Cap

/- Contracts: draws of talks as data; equality of packets; packets are valid, twice. -/
namespace Go.Cap
open Go Go.Proofs
set_option maxRecDepth 100000
set_option linter.unusedSimpArgs false
set_option linter.unusedVariables false
attribute [local irreducible] Call Run Spec Le

def TalkIs (t : Talk) : Prop := t.says.length ≤ 6 ∧ ∀ s ∈ t.says, s.text.length ≤ 1000
theorem s_implChunkValid (c : Chunk) : Spec Try.prog 126 0 [] [c.av] (fun r _ _ _ => r = .bo (chunkB c)) := by
  refine mk126 rfl fun cx hP hm => ?_
  unfold pc126 Chunk.av
  simp only [hm, go_sem, ↓reduceIte]
  repeat' first | refine And.intro ?_ ?_ | intro _
  all_goals (apply bo_inj; rw [Bool.eq_iff_iff]; simp [chunkB, inB] <;> omega)
theorem s_implPacketValid (p : Packet) : Spec Try.prog 64 0 [] [p.ro] (fun r _ _ _ => r = .bo (packB p)) := by
  refine mr64 rfl fun c hP hm => ?_
  unfold pc64 Packet.ro
  refine run_seq (run_wpc _ _ _ _ _ ?_)
  simp only [hm, go_sem, ↓reduceIte]
  refine run_seq (run_wpc _ _ _ _ _ ?_)
  simp only [hm, go_sem, ↓reduceIte]
  repeat' first | refine And.intro ?_ ?_ | intro _
  all_goals first
    | (apply bo_inj; symm; rw [Bool.eq_false_iff]; intro hh; simp only [packB, inB, Bool.and_eq_true, decide_eq_true_eq] at hh; omega)
    | skip
  refine run_wpc _ _ _ _ _ ?_
  simp only [hm, go_sem, ↓reduceIte]
  intro _
  refine lp_wpc (α := Nat) (fun i => ⟨[(53, .r (.ro none (p.chunks.map Chunk.row))), (54, .i p.chunks.length), (55, .i i)], [], 0, []⟩)
    (fun i => i ≤ p.chunks.length ∧ ∀ c ∈ p.chunks.take i, chunkB c = true) (fun i => p.chunks.length - i) 0 ⟨Nat.zero_le _, fun c hc => by simp at hc⟩ (by (refine le_ev [] ?_; simp only [hm, go_sem, ↓reduceIte]; first | done | rfl | exact ⟨rfl, rfl⟩)) ?_
  rintro i ⟨hi, hI⟩
  unfold pc64l0
  rcases Nat.lt_or_ge i p.chunks.length with hil | hil
  · have hw : IntKind.i64.wrap ((i : Int) + 1) = ((i + 1 : Nat) : Int) := by rw [wrap64 (by omega) (by omega)]; omega
    have hg := getD_map (f := Chunk.row) hil
    have htk := take_get hil
    have hmem := List.getElem_mem hil
    generalize p.chunks[i] = x at hg htk hmem
    have hok : chunkB x = false → AV.r (RV.b false) = AV.bo (packB p) := fun h => by
      apply bo_inj; symm; rw [Bool.eq_false_iff]; intro hh
      simp only [packB, Bool.and_eq_true, List.all_eq_true] at hh
      rw [hh.2 x hmem] at h; cases h
    simp only [hw, Int.toNat_natCast, hg, Chunk.row, hm, go_sem, ↓reduceIte]
    repeat' first | refine And.intro ?_ ?_ | intro _ | (refine call_pure (hP ▸ s_implChunkValid x) rfl rfl ?_; simp only [hw, Int.toNat_natCast, hg, Chunk.row, hm, go_sem, ↓reduceIte])
    all_goals first
      | omega
      | rfl
      | (rename_i hc; exact hok hc)
      | (rename_i hc
         refine ⟨i + 1, ⟨hil, fun y hy => ?_⟩, by omega, ?_⟩
         · rw [htk] at hy
           rcases List.mem_append.1 hy with hy | hy
           · exact hI y hy
           · simp only [List.mem_singleton] at hy; subst hy; exact hc
         · (refine le_ev [] ?_; simp only [hm, go_sem, ↓reduceIte]; first | done | rfl | exact ⟨rfl, rfl⟩))
  · have : i = p.chunks.length := by omega
    subst this
    rw [List.take_length] at hI
    have hall : p.chunks.all chunkB = true := List.all_eq_true.2 hI
    simp only [hm, go_sem, ↓reduceIte]
    repeat' first | refine And.intro ?_ ?_ | intro _
    all_goals first
      | omega
      | (apply bo_inj; symm; simp only [packB, inB, hall, Bool.and_eq_true, decide_eq_true_eq, and_true]; omega)
end Go.Cap

/- Contracts: sums; bytes of chunks and packets, twice. -/
namespace Go.Cap
open Go Go.Proofs
set_option maxRecDepth 100000
set_option linter.unusedSimpArgs false
set_option linter.unusedVariables false
attribute [local irreducible] Call Run Spec Le

theorem sum_step {a b : Int} {x : UInt8} (ha : 0 ≤ a ∧ a < 65536) (hb : 0 ≤ b ∧ b < 65536) : (IntKind.i64.wrap (a + IntKind.i64.wrap (x.toNat : Int))).tmod 65521 = (a + x.toNat) % 65521 ∧ (IntKind.i64.wrap (b + (a + x.toNat) % 65521)).tmod 65521 = (b + (a + x.toNat) % 65521) % 65521 := by
  have hx := byte_lt x
  have h1 : IntKind.i64.wrap (x.toNat : Int) = x.toNat := wrap64 (by omega) (by omega)
  rw [h1, wrap64 (by omega) (by omega), wrap64 (x := b + _) (by omega) (by omega)]
  exact ⟨Int.tmod_eq_emod_of_nonneg (by omega), Int.tmod_eq_emod_of_nonneg (by omega)⟩
theorem getD_eq {s : List UInt8} {i : Nat} (h : i < s.length) : s.getD i 0 = s[i] := by simp [List.getD_eq_getElem?_getD, h]
theorem s_sumOn (s : List UInt8) (hs : s.length ≤ 1000000) : Spec Try.prog 151 0 [] [.i 1, .i 0, .st s] (fun r _ _ _ => r = .i (sumOf s)) := by
  refine mk151 rfl fun c hP hm => ?_
  unfold pc151
  simp only [hm, go_sem, ↓reduceIte]
  refine lp_wpc (α := Nat) (fun i => ⟨[(0, .i (adl (s.take i) 1 0).1), (1, .i (adl (s.take i) 1 0).2), (2, .st s), (7, .i i)], [], 0, []⟩) (fun i => i ≤ s.length) (fun i => s.length - i) 0 (Nat.zero_le _) (by rw [List.take_zero, adl]; (refine le_ev [] ?_; simp only [hm, go_sem, ↓reduceIte]; first | done | rfl | exact ⟨rfl, rfl⟩)) ?_
  intro i hi
  unfold pc151l0
  rcases Nat.lt_or_ge i s.length with hil | hil
  · have hw : IntKind.i64.wrap ((i : Int) + 1) = ((i + 1 : Nat) : Int) := by rw [wrap64 (by omega) (by omega)]; omega
    obtain ⟨r1, r2⟩ := adl_range (s.take i) 1 0 (by omega) (by omega)
    have hst := adl_take hil 1 0
    have hgd := getD_eq hil
    generalize adl (s.take i) 1 0 = ab at r1 r2 hst
    generalize s[i] = x at hst hgd
    obtain ⟨e1, e2⟩ := sum_step (a := ab.1) (b := ab.2) (x := x) (by omega) (by omega)
    simp only [hw, hgd, e1, e2, Int.toNat_natCast, hm, go_sem, ↓reduceIte]
    repeat' first | refine And.intro ?_ ?_ | intro _
    all_goals first
      | omega
      | (refine ⟨i + 1, hil, by omega, ?_⟩; rw [hst]; (refine le_ev [] ?_; simp only [hm, go_sem, ↓reduceIte]; first | done | rfl | exact ⟨rfl, rfl⟩))
  · have : i = s.length := by omega
    subst this
    rw [List.take_length]
    obtain ⟨r1, r2⟩ := adl_range s 1 0 (by omega) (by omega)
    have hf : IntKind.i64.wrap (IntKind.i64.wrap ((adl s 1 0).2 * 65536) + (adl s 1 0).1) = sumOf s := by
      unfold sumOf
      rw [wrap64 (x := (adl s 1 0).2 * 65536) (by omega) (by omega), wrap64 (by omega) (by omega)]; omega
    simp only [hf, hm, go_sem, ↓reduceIte]
    repeat' first | refine And.intro ?_ ?_ | intro _
    all_goals first
      | omega
      | rfl
theorem s_SumText (s : List UInt8) (hs : s.length ≤ 1000000) : Spec Try.prog 101 0 [] [.st s] (fun r _ _ _ => r = .i (sumOf s)) := by
  refine mk101 rfl fun c hP hm => ?_
  unfold pc101
  simp only [hm, go_sem, ↓reduceIte]
  refine call_pure (hP ▸ s_sumOn s hs) rfl rfl ?_
  simp only [hm, go_sem, ↓reduceIte]
theorem s_l2Next (s : List UInt8) (hs : s.length ≤ 1000000) : Spec Try.prog 176 0 [] [.i 1, .st s] (fun r _ _ _ => r = .i (sumOf s)) := by
  refine mk176 rfl fun c hP hm => ?_
  unfold pc176
  have t1 : (1 : Int).tmod 65536 = 1 := by decide
  have t2 : IntKind.i64.wrap ((1 : Int).tdiv 65536) = 0 := by decide
  simp only [t1, t2, hm, go_sem, ↓reduceIte]
  refine lp_wpc (α := Nat) (fun i => ⟨[(1, .st s), (5, .i (adl (s.take i) 1 0).1), (6, .i (adl (s.take i) 1 0).2), (7, .i i)], [], 0, []⟩) (fun i => i ≤ s.length) (fun i => s.length - i) 0 (Nat.zero_le _) (by rw [List.take_zero, adl]; (refine le_ev [] ?_; simp only [hm, go_sem, ↓reduceIte]; first | done | rfl | exact ⟨rfl, rfl⟩)) ?_
  intro i hi
  unfold pc176l0
  rcases Nat.lt_or_ge i s.length with hil | hil
  · have hw : IntKind.i64.wrap ((i : Int) + 1) = ((i + 1 : Nat) : Int) := by rw [wrap64 (by omega) (by omega)]; omega
    obtain ⟨r1, r2⟩ := adl_range (s.take i) 1 0 (by omega) (by omega)
    have hst := adl_take hil 1 0
    have hgd := getD_eq hil
    generalize adl (s.take i) 1 0 = ab at r1 r2 hst
    generalize s[i] = x at hst hgd
    obtain ⟨e1, e2⟩ := sum_step (a := ab.1) (b := ab.2) (x := x) (by omega) (by omega)
    simp only [hw, hgd, e1, e2, Int.toNat_natCast, hm, go_sem, ↓reduceIte]
    repeat' first | refine And.intro ?_ ?_ | intro _
    all_goals first
      | omega
      | (refine ⟨i + 1, hil, by omega, ?_⟩; rw [hst]; (refine le_ev [] ?_; simp only [hm, go_sem, ↓reduceIte]; first | done | rfl | exact ⟨rfl, rfl⟩))
  · have : i = s.length := by omega
    subst this
    rw [List.take_length]
    obtain ⟨r1, r2⟩ := adl_range s 1 0 (by omega) (by omega)
    have hf : IntKind.i64.wrap (IntKind.i64.wrap (65536 * (adl s 1 0).2) + (adl s 1 0).1) = sumOf s := by
      unfold sumOf
      rw [wrap64 (x := 65536 * (adl s 1 0).2) (by omega) (by omega), wrap64 (by omega) (by omega)]
    simp only [hf, hm, go_sem, ↓reduceIte]
    repeat' first | refine And.intro ?_ ?_ | intro _
    all_goals first
      | omega
      | rfl
/-- The bytes of a chunk without its end. -/
def chunkHead (c : Chunk) : List UInt8 := [u8 c.kind, u8 c.flags] ++ word (4 + c.body.length : Nat) ++ c.body
theorem chunkHead_len (c : Chunk) : (chunkHead c).length = 4 + c.body.length := by simp [chunkHead, word]; omega
theorem kb {k f : Int} (hk : 0 ≤ k ∧ k ≤ 255) (hf : 0 ≤ f ∧ f ≤ 255) : [byteOf [.n .u8 (IntKind.u8.wrap k)], byteOf [.n .u8 (IntKind.u8.wrap f)]] = [u8 k, u8 f] := by
  simp only [byteOf_u8, wrap_u8]
  rw [Int.emod_eq_of_lt (a := k) (by omega) (by omega), Int.emod_eq_of_lt (a := f) (by omega) (by omega)]
theorem pad_mod {n j : Nat} (hn : n ≤ 60) (hj : j ≤ padN n) : (((4 + n + j : Nat) : Int).tmod 4 = 0) ↔ j = padN n := by
  rw [Int.tmod_eq_emod_of_nonneg (by omega)]
  unfold padN at hj ⊢
  omega
theorem s_implChunkPut (c : Chunk) (h : chunkB c = true) : Spec Try.prog 100 0 [] [c.av] (fun r _ _ _ => r = .st (chunkPut c)) := by
  have h' := h
  simp only [chunkB, inB, Bool.and_eq_true, decide_eq_true_eq] at h'
  obtain ⟨⟨h1, h2⟩, h3⟩ := h'
  refine mk100 rfl fun cx hP hm => ?_
  unfold pc100 Chunk.av
  have hw : IntKind.i64.wrap (4 + (c.body.length : Int)) = ((4 + c.body.length : Nat) : Int) := by rw [wrap64 (by omega) (by omega)]; omega
  have hk := kb h1 h2
  simp only [hw, hm, go_sem, ↓reduceIte]
  refine call_pure (hP ▸ s_implChunkValid c) rfl rfl ?_
  simp only [h, hw, hm, go_sem, ↓reduceIte]
  refine call_data (hP ▸ s_WordPut ((4 + c.body.length : Nat) : Int) (by omega)) rfl rfl ?_
  simp only [hk, word_len, List.length_append, List.length_cons, List.length_nil, hm, go_sem, ↓reduceIte]
  repeat' first | refine And.intro ?_ ?_ | intro _
  all_goals first
    | omega
    | (rename_i hr; rcases hr with rfl | rfl <;> exact ⟨_, rfl⟩)
    | skip
  have hbase : [u8 c.kind, u8 c.flags] ++ word ((4 + c.body.length : Nat) : Int) ++ c.body = chunkHead c := rfl
  have hhl := chunkHead_len c
  refine lp_wpc (α := Nat) (fun j => ⟨[(5, .st (chunkHead c ++ List.replicate j 0))], [], 0, []⟩) (fun j => j ≤ padN c.body.length) (fun j => padN c.body.length - j) 0 (Nat.zero_le _) (by rw [List.replicate_zero, List.append_nil, ← hbase]; (refine le_ev [] ?_; simp only [hm, go_sem, ↓reduceIte]; first | done | rfl | exact ⟨rfl, rfl⟩)) ?_
  intro j hj
  unfold pc100l0
  have hpm := pad_mod h3 hj
  have hp4 := (padN_lt c.body.length).1
  have hll : ((chunkHead c).length + j) = 4 + c.body.length + j := by omega
  simp only [List.length_append, List.length_replicate, hll, hm, go_sem, ↓reduceIte]
  repeat' first | refine And.intro ?_ ?_ | intro _
  all_goals first
    | omega
    | (rename_i hne
       refine ⟨j + 1, ?_, ?_, ?_⟩
       · have : j ≠ padN c.body.length := fun e => hne (hpm.2 e)
         omega
       · have : j ≠ padN c.body.length := fun e => hne (hpm.2 e)
         omega
       · rw [List.append_assoc, ← List.replicate_succ' (n := j) (a := (0 : UInt8))]
         (refine le_ev [] ?_; simp only [hm, go_sem, ↓reduceIte]; first | done | rfl | exact ⟨rfl, rfl⟩))
    | (rename_i he; rw [hpm.1 he]; rfl)
theorem loop_l11Put {cx : Cx} (hP : cx.P = Try.prog) (hm : cx.m = 0) (c : Chunk) (h3 : c.body.length ≤ 60) {s0 : St} {n r : St → Prop} {x : Nat → St → Prop}
    (hs : Le cx s0 ⟨[(3, .st (chunkHead c ++ List.replicate 0 0))], [], 0, []⟩) (hx : x 0 ⟨[(3, .st (chunkPut c))], [], 0, []⟩) : Run cx (.lp pc153l0) s0 n x r := by
  have hhl := chunkHead_len c
  refine run_exit 0 (fun t0 => t0 = ⟨[(3, .st (chunkPut c))], [], 0, []⟩) ?_ (fun t0 h => by rw [h]; exact hx)
  refine lp_wpc (α := Nat) (fun j => ⟨[(3, .st (chunkHead c ++ List.replicate j 0))], [], 0, []⟩) (fun j => j ≤ padN c.body.length) (fun j => padN c.body.length - j) 0 (Nat.zero_le _) hs ?_
  intro j hj
  unfold pc153l0
  have hpm := pad_mod h3 hj
  have hp4 := (padN_lt c.body.length).1
  have hll : ((chunkHead c).length + j) = 4 + c.body.length + j := by omega
  simp only [List.length_append, List.length_replicate, hll, hm, go_sem, ↓reduceIte]
  repeat' first | refine And.intro ?_ ?_ | intro _
  all_goals first
    | omega
    | (rename_i hne
       refine ⟨j + 1, ?_, ?_, ?_⟩
       · have : j ≠ padN c.body.length := fun e => hne (hpm.2 e)
         omega
       · have : j ≠ padN c.body.length := fun e => hne (hpm.2 e)
         omega
       · rw [List.append_assoc, ← List.replicate_succ' (n := j) (a := (0 : UInt8))]
         (refine le_ev [] ?_; simp only [hm, go_sem, ↓reduceIte]; first | done | rfl | exact ⟨rfl, rfl⟩))
    | (rename_i he; rw [hpm.1 he]; refine ⟨_, rfl, ?_⟩; unfold chunkPut chunkHead; (refine le_ev [] ?_; simp only [hm, go_sem, ↓reduceIte]; first | done | rfl | exact ⟨rfl, rfl⟩))
theorem s_l11Put (c : Chunk) (h : chunkB c = true) : Spec Try.prog 153 0 [] [c.av] (fun r _ _ _ => r = .st (chunkPut c)) := by
  have h' := h
  simp only [chunkB, inB, Bool.and_eq_true, decide_eq_true_eq] at h'
  obtain ⟨⟨h1, h2⟩, h3⟩ := h'
  refine mk153 rfl fun cx hP hm => ?_
  unfold pc153 Chunk.av
  have hw : IntKind.i64.wrap (4 + (c.body.length : Int)) = ((4 + c.body.length : Nat) : Int) := by rw [wrap64 (by omega) (by omega)]; omega
  have hk := kb h1 h2
  have hb2 : u8 c.kind :: u8 c.flags :: (word ((4 + c.body.length : Nat) : Int) ++ c.body) = chunkHead c ++ List.replicate 0 0 := by rw [List.replicate_zero, List.append_nil]; rfl
  simp only [hw, hk, hm, go_sem, ↓reduceIte]
  repeat' first
    | refine And.intro ?_ ?_
    | intro _
    | (refine call_pure (hP ▸ s_l1Word ((4 + c.body.length : Nat) : Int) (by omega)) rfl rfl ?_; simp only [hk, word_len, List.length_append, List.length_cons, List.length_nil, List.cons_append, List.nil_append, hm, go_sem, ↓reduceIte])
  all_goals first
    | omega
    | (rename_i hr; rcases hr with rfl | rfl <;> exact ⟨_, rfl⟩)
    | (rw [hw]; done)
    | (refine loop_l11Put hP hm c h3 (by rw [← hb2]; (refine le_ev [] ?_; simp only [hm, go_sem, ↓reduceIte]; first | done | rfl | exact ⟨rfl, rfl⟩)) ?_
       simp only [hm, go_sem, ↓reduceIte])
theorem chunkPut_le {c : Chunk} (h : chunkB c = true) : (chunkPut c).length ≤ 64 := by
  simp only [chunkB, inB, Bool.and_eq_true, decide_eq_true_eq] at h
  rw [chunkPut_len]
  have := padN_lt c.body.length
  unfold padN at *; omega
theorem rest_le : ∀ (l : List Chunk), (∀ c ∈ l, chunkB c = true) → (l.flatMap chunkPut).length ≤ 64 * l.length
  | [], _ => by simp
  | c :: l, h => by
    have h1 := chunkPut_le (h c (by simp))
    have h2 := rest_le l fun x hx => h x (by simp [hx])
    rw [List.flatMap_cons, List.length_append, List.length_cons]; omega
theorem packHead_len (p : Packet) : (packHead p).length = 8 := by simp [packHead, word, long]
theorem s_implPacketPut (p : Packet) : Spec Try.prog 46 0 [] [p.ro] (fun r _ _ _ => r = .st (packPut p)) := by
  refine mr46 rfl fun c hP hm => ?_
  unfold pc46 Packet.ro
  refine run_seq (run_wpc _ _ _ _ _ ?_)
  simp only [hm, go_sem, ↓reduceIte]
  refine run_seq (run_wpc _ _ _ _ _ ?_)
  simp only [hm, go_sem, ↓reduceIte]
  refine call_pure (hP ▸ s_implPacketValid p) rfl rfl ?_
  cases hv : packB p
  · simp only [hm, go_sem, ↓reduceIte]
    unfold packPut
    rw [hv]; rfl
  have h' := hv
  simp only [packB, inB, Bool.and_eq_true, decide_eq_true_eq, List.all_eq_true] at h'
  obtain ⟨⟨⟨⟨⟨h1, h2⟩, h3⟩, h4⟩, h5⟩, h6⟩ := h'
  simp only [hm, go_sem, ↓reduceIte]
  refine run_seq (run_wpc _ _ _ _ _ ?_)
  simp only [hm, go_sem, ↓reduceIte]
  refine call_data (hP ▸ s_LongPut p.tag (by omega)) rfl rfl ?_
  simp only [hm, go_sem, ↓reduceIte]
  refine run_seq (run_wpc _ _ _ _ _ ?_)
  simp only [hm, go_sem, ↓reduceIte]
  have hws := s_words [p.fr, p.to] (by simp) (by simp only [List.mem_cons, List.not_mem_nil, or_false]; rintro n (rfl | rfl) <;> omega)
  have e1 : ([p.fr, p.to].flatMap word) = word p.fr ++ word p.to := by simp
  rw [e1] at hws
  refine call_flat (hP ▸ hws) rfl (.cons (Vw.full rfl (by simp)) .nil) ?_
  simp only [word_len, long_len, List.length_append, hm, go_sem, ↓reduceIte]
  refine run_seq (run_wpc _ _ _ _ _ ?_)
  simp only [hm, go_sem, ↓reduceIte]
  refine run_seq (run_wpc _ _ _ _ _ ?_)
  simp only [hm, go_sem, ↓reduceIte]
  intro _
  have hhd : word p.fr ++ word p.to ++ long p.tag = packHead p := rfl
  have hhl := packHead_len p
  rw [hhd]
  refine run_exit 0 (fun t0 => t0 = ⟨[(5, .st (packHead p)), (6, .st (packRest p))], [], 0, []⟩) ?_ ?_
  · refine lp_wpc (α := Nat) (fun i => ⟨[(5, .st (packHead p)), (6, .st ((p.chunks.take i).flatMap chunkPut)), (29, .r (.ro none (p.chunks.map Chunk.row))), (30, .i p.chunks.length), (31, .i i)], [], 0, []⟩)
      (fun i => i ≤ p.chunks.length) (fun i => p.chunks.length - i) 0 (Nat.zero_le _) (by rw [List.take_zero, List.flatMap_nil]; (refine le_ev [] ?_; simp only [hm, go_sem, ↓reduceIte]; first | done | rfl | exact ⟨rfl, rfl⟩)) ?_
    intro i hi
    unfold pc46l0
    rcases Nat.lt_or_ge i p.chunks.length with hil | hil
    · have hw : IntKind.i64.wrap ((i : Int) + 1) = ((i + 1 : Nat) : Int) := by rw [wrap64 (by omega) (by omega)]; omega
      have hg := getD_map (f := Chunk.row) hil
      have htk : (p.chunks.take (i + 1)).flatMap chunkPut = (p.chunks.take i).flatMap chunkPut ++ chunkPut p.chunks[i] := by rw [take_get hil, List.flatMap_append]; simp
      have hc := h6 _ (List.getElem_mem hil)
      have hcl := chunkPut_le hc
      have hrl := rest_le (p.chunks.take i) fun c hc => h6 c (List.mem_of_mem_take hc)
      rw [List.length_take] at hrl
      generalize p.chunks[i] = x at hg htk hc hcl
      simp only [hw, Int.toNat_natCast, hg, Chunk.row, hm, go_sem, ↓reduceIte]
      repeat' first | refine And.intro ?_ ?_ | intro _ | (refine call_pure (hP ▸ s_implChunkPut x hc) rfl rfl ?_; simp only [hw, Int.toNat_natCast, hg, Chunk.row, hm, go_sem, ↓reduceIte])
      all_goals first
        | omega
        | rfl
        | (refine ⟨i + 1, hil, by omega, ?_⟩; rw [htk]; (refine le_ev [] ?_; simp only [hm, go_sem, ↓reduceIte]; first | done | rfl | exact ⟨rfl, rfl⟩))
    · have : i = p.chunks.length := by omega
      subst this
      rw [List.take_length]
      simp only [hm, go_sem, ↓reduceIte]
      repeat' first | refine And.intro ?_ ?_ | intro _
      all_goals first
        | omega
        | (refine ⟨_, rfl, ?_⟩; unfold packRest; (refine le_ev [] ?_; simp only [hm, go_sem, ↓reduceIte]; first | done | rfl | exact ⟨rfl, rfl⟩))
  rintro t0 rfl
  rw [if_pos rfl]
  have hrl : (packRest p).length ≤ 256 := by have := rest_le p.chunks h6; unfold packRest; omega
  have hsum := sumOf_range (packHead p ++ [0, 0, 0, 0] ++ packRest p)
  refine run_wpc _ _ _ _ _ ?_
  simp only [List.length_append, List.length_cons, List.length_nil, hhl, hm, go_sem, ↓reduceIte]
  repeat' first | refine And.intro ?_ ?_ | intro _ | (refine call_pure (hP ▸ s_SumText (packHead p ++ [0, 0, 0, 0] ++ packRest p) (by simp only [List.length_append, List.length_cons, List.length_nil]; omega)) rfl rfl ?_; simp only [hm, go_sem, ↓reduceIte]) | (refine call_data (hP ▸ s_LongPut (sumOf (packHead p ++ [0, 0, 0, 0] ++ packRest p)) (by omega)) rfl rfl ?_; simp only [List.length_append, long_len, hhl, hm, go_sem, ↓reduceIte])
  all_goals first
    | omega
    | (unfold packPut packRaw; rw [hv]; rfl)
end Go.Cap

/- Contracts: bytes of packets (the reference's). -/
namespace Go.Cap
open Go Go.Proofs
set_option maxRecDepth 100000
set_option linter.unusedSimpArgs false
set_option linter.unusedVariables false
attribute [local irreducible] Call Run Spec Le

theorem s_specChunkValid (c : Chunk) : Spec Try.prog 119 0 [] [c.av] (fun r _ _ _ => r = .bo (chunkB c)) := by
  refine mk119 rfl fun cx hP hm => ?_
  unfold pc119 Chunk.av
  simp only [hm, go_sem, ↓reduceIte]
  repeat' first | refine And.intro ?_ ?_ | intro _ | (refine c_l6In hP ?_; simp only [hm, go_sem, ↓reduceIte])
  all_goals (apply bo_inj; rw [Bool.eq_iff_iff]; simp [chunkB, *] <;> omega)
theorem s_specPacketValid (p : Packet) (hl : p.chunks.length ≤ 1000000) : Spec Try.prog 58 0 [] [p.ro] (fun r _ _ _ => r = .bo (packB p)) := by
  refine mr58 rfl fun c hP hm => ?_
  unfold pc58 Packet.ro
  refine run_seq (run_wpc _ _ _ _ _ ?_)
  simp only [hm, go_sem, ↓reduceIte]
  refine run_seq (run_wpc _ _ _ _ _ ?_)
  simp only [hm, go_sem, ↓reduceIte]
  refine run_exit 0 (fun t0 => t0 = ⟨[(1, .ptr 0 0 0)], [(0, .var [.i p.fr, .i p.to, .i p.tag, .r (.ro none (p.chunks.map Chunk.row))])], 1, []⟩ ∧ p.chunks.all chunkB = true) ?_ ?_
  · refine lp_wpc (α := Nat) (fun i => ⟨[(1, .ptr 0 0 0), (3, .i i)], [(0, .var [.i p.fr, .i p.to, .i p.tag, .r (.ro none (p.chunks.map Chunk.row))])], 1, []⟩)
      (fun i => i ≤ p.chunks.length ∧ ∀ c ∈ p.chunks.take i, chunkB c = true) (fun i => p.chunks.length - i) 0 ⟨Nat.zero_le _, fun c hc => by simp at hc⟩ (by (refine le_ev [] ?_; simp only [hm, go_sem, ↓reduceIte]; first | done | rfl | exact ⟨rfl, rfl⟩)) ?_
    rintro i ⟨hi, hI⟩
    unfold pc58l0
    rcases Nat.lt_or_ge i p.chunks.length with hil | hil
    · have hw : IntKind.i64.wrap ((i : Int) + 1) = ((i + 1 : Nat) : Int) := by rw [wrap64 (by omega) (by omega)]; omega
      have hg := getD_map (f := Chunk.row) hil
      have htk := take_get hil
      have hmem := List.getElem_mem hil
      generalize p.chunks[i] = x at hg htk hmem
      have hok : chunkB x = false → AV.r (RV.b false) = AV.bo (packB p) := fun h => by
        apply bo_inj; symm; rw [Bool.eq_false_iff]; intro hh
        simp only [packB, Bool.and_eq_true, List.all_eq_true] at hh
        rw [hh.2 x hmem] at h; cases h
      simp only [hw, Int.toNat_natCast, hg, Chunk.row, hm, go_sem, ↓reduceIte]
      repeat' first | refine And.intro ?_ ?_ | intro _ | (refine call_pure (hP ▸ s_specChunkValid x) rfl rfl ?_; simp only [hw, Int.toNat_natCast, hg, Chunk.row, hm, go_sem, ↓reduceIte])
      all_goals first
        | omega
        | rfl
        | (rename_i hc; exact hok hc)
        | (rename_i hc
           refine ⟨i + 1, ⟨hil, fun y hy => ?_⟩, by omega, ?_⟩
           · rw [htk] at hy
             rcases List.mem_append.1 hy with hy | hy
             · exact hI y hy
             · simp only [List.mem_singleton] at hy; subst hy; exact hc
           · (refine le_ev [] ?_; simp only [hm, go_sem, ↓reduceIte]; first | done | rfl | exact ⟨rfl, rfl⟩))
    · have : i = p.chunks.length := by omega
      subst this
      rw [List.take_length] at hI
      have hall : p.chunks.all chunkB = true := List.all_eq_true.2 hI
      simp only [hm, go_sem, ↓reduceIte]
      repeat' first | refine And.intro ?_ ?_ | intro _
      all_goals first
        | omega
        | (refine ⟨_, ⟨rfl, hall⟩, ?_⟩; (refine le_ev [] ?_; simp only [hm, go_sem, ↓reduceIte]; first | done | rfl | exact ⟨rfl, rfl⟩))
  rintro t0 ⟨rfl, hall⟩
  rw [if_pos rfl]
  refine run_wpc _ _ _ _ _ ?_
  simp only [hm, go_sem, ↓reduceIte]
  repeat' first | refine And.intro ?_ ?_ | intro _ | (refine c_l6In hP ?_; simp only [hm, go_sem, ↓reduceIte])
  all_goals first
    | (apply bo_inj; rw [Bool.eq_iff_iff]; simp [packB, hall, *]; done)
    | (apply bo_inj; rw [Bool.eq_iff_iff]; simp [packB, hall, inB, *]; omega)
    | (apply bo_inj; rw [Bool.eq_iff_iff]; simp only [packB, hall, Bool.and_eq_true, decide_eq_true_eq, *]; simp [inB] at *; omega)
theorem s_l13Sum (s : List UInt8) (h : 12 ≤ s.length ∧ s.length ≤ 10000) : Spec Try.prog 154 0 [] [.st s] (fun r _ _ _ => r = .i (sumOf (s.take 8 ++ [0, 0, 0, 0] ++ s.drop 12))) := by
  refine mk154 rfl fun c hP hm => ?_
  unfold pc154
  have e8 : (8 : Int).toNat = 8 := by decide
  have e12 : (12 : Int).toNat = 12 := by decide
  have et : List.take s.length s = s := List.take_length
  simp only [e8, e12, et, Int.toNat_natCast, List.drop_zero, List.length_append, List.length_take, List.length_drop, List.length_cons, List.length_nil, hm, go_sem, ↓reduceIte]
  repeat' first | refine And.intro ?_ ?_ | intro _
  all_goals first
    | omega
    | (refine call_pure (hP ▸ s_l2Next (s.take 8 ++ [0, 0, 0, 0] ++ s.drop 12) (by simp only [List.length_append, List.length_take, List.length_drop, List.length_cons, List.length_nil]; omega)) rfl rfl ?_
       simp only [e8, e12, et, Int.toNat_natCast, List.drop_zero, List.length_append, List.length_take, List.length_drop, List.length_cons, List.length_nil, hm, go_sem, ↓reduceIte]
       repeat' first | refine And.intro ?_ ?_ | intro _
       all_goals first
         | omega
         | rfl
         )
theorem s_l13Put (p : Packet) (hv : packB p = true) : Spec Try.prog 102 0 [] [p.ro] (fun r _ _ _ => r = .st (packRaw p)) := by
  have h' := hv
  simp only [packB, inB, Bool.and_eq_true, decide_eq_true_eq, List.all_eq_true] at h'
  obtain ⟨⟨⟨⟨⟨h1, h2⟩, h3⟩, h4⟩, h5⟩, h6⟩ := h'
  have hhl := packHead_len p
  have hrl : (packRest p).length ≤ 256 := by have := rest_le p.chunks h6; unfold packRest; omega
  have hsum := sumOf_range (packHead p ++ [0, 0, 0, 0] ++ packRest p)
  refine mr102 rfl fun c hP hm => ?_
  unfold pc102 Packet.ro
  refine run_seq (run_wpc _ _ _ _ _ ?_)
  simp only [hm, go_sem, ↓reduceIte]
  refine run_join (fun t => t = ⟨[(1, .ptr 0 0 0), (3, .st (packHead p ++ [0, 0, 0, 0]))], [(0, .var [.i p.fr, .i p.to, .i p.tag, .r (.ro none (p.chunks.map Chunk.row))])], 1, []⟩) (run_wpc _ _ _ _ _ ?_) ?_
  · simp only [hm, go_sem, ↓reduceIte]
    repeat' first
      | refine And.intro ?_ ?_
      | intro _
      | (refine call_pure (hP ▸ s_l1Word p.fr (by omega)) rfl rfl ?_; simp only [word_len, long_len, List.length_append, hm, go_sem, ↓reduceIte])
      | (refine call_pure (hP ▸ s_l1Word p.to (by omega)) rfl rfl ?_; simp only [word_len, long_len, List.length_append, hm, go_sem, ↓reduceIte])
      | (refine call_pure (hP ▸ s_l1Long p.tag (by omega)) rfl rfl ?_; simp only [word_len, long_len, List.length_append, hm, go_sem, ↓reduceIte])
    all_goals first
      | omega
      | rfl
      | (refine ⟨_, rfl, ?_⟩; unfold packHead; (refine le_ev [] ?_; simp only [hm, go_sem, ↓reduceIte]; first | done | rfl | exact ⟨rfl, rfl⟩))
  rintro t rfl
  refine run_seq (run_wpc _ _ _ _ _ ?_)
  simp only [hm, go_sem, ↓reduceIte]
  refine run_exit 0 (fun t0 => t0 = ⟨[(3, .st (packHead p ++ [0, 0, 0, 0] ++ packRest p))], [], 0, []⟩) ?_ ?_
  · refine lp_wpc (α := Nat) (fun i => ⟨[(1, .ptr 0 0 0), (3, .st (packHead p ++ [0, 0, 0, 0] ++ (p.chunks.take i).flatMap chunkPut)), (4, .i i)], [(0, .var [.i p.fr, .i p.to, .i p.tag, .r (.ro none (p.chunks.map Chunk.row))])], 1, []⟩)
      (fun i => i ≤ p.chunks.length) (fun i => p.chunks.length - i) 0 (Nat.zero_le _) (by rw [List.take_zero, List.flatMap_nil, List.append_nil]; (refine le_ev [] ?_; simp only [hm, go_sem, ↓reduceIte]; first | done | rfl | exact ⟨rfl, rfl⟩)) ?_
    intro i hi
    unfold pc102l0
    rcases Nat.lt_or_ge i p.chunks.length with hil | hil
    · have hw : IntKind.i64.wrap ((i : Int) + 1) = ((i + 1 : Nat) : Int) := by rw [wrap64 (by omega) (by omega)]; omega
      have hg := getD_map (f := Chunk.row) hil
      have htk : (p.chunks.take (i + 1)).flatMap chunkPut = (p.chunks.take i).flatMap chunkPut ++ chunkPut p.chunks[i] := by rw [take_get hil, List.flatMap_append]; simp
      have hc := h6 _ (List.getElem_mem hil)
      have hcl := chunkPut_le hc
      have hrl2 := rest_le (p.chunks.take i) fun c hc => h6 c (List.mem_of_mem_take hc)
      rw [List.length_take] at hrl2
      generalize p.chunks[i] = x at hg htk hc hcl
      simp only [hw, Int.toNat_natCast, hg, Chunk.row, List.length_append, List.length_cons, List.length_nil, hhl, hm, go_sem, ↓reduceIte]
      repeat' first | refine And.intro ?_ ?_ | intro _ | (refine call_pure (hP ▸ s_l11Put x hc) rfl rfl ?_; simp only [hw, Int.toNat_natCast, hg, Chunk.row, List.length_append, List.length_cons, List.length_nil, hhl, hm, go_sem, ↓reduceIte])
      all_goals first
        | omega
        | rfl
        | (refine ⟨i + 1, hil, by omega, ?_⟩; rw [htk, ← List.append_assoc]; (refine le_ev [] ?_; simp only [hm, go_sem, ↓reduceIte]; first | done | rfl | exact ⟨rfl, rfl⟩))
    · have : i = p.chunks.length := by omega
      subst this
      rw [List.take_length]
      simp only [hm, go_sem, ↓reduceIte]
      repeat' first | refine And.intro ?_ ?_ | intro _
      all_goals first
        | omega
        | (refine ⟨_, rfl, ?_⟩; unfold packRest; (refine le_ev [] ?_; simp only [hm, go_sem, ↓reduceIte]; first | done | rfl | exact ⟨rfl, rfl⟩))
  rintro t0 rfl
  rw [if_pos rfl]
  refine run_wpc _ _ _ _ _ ?_
  have hh4 : (packHead p ++ [0, 0, 0, 0]).length = 12 := by rw [List.length_append, hhl]; rfl
  have hol : (packHead p ++ [0, 0, 0, 0] ++ packRest p).length = 12 + (packRest p).length := by rw [List.length_append, hh4]
  have ht8 : (packHead p ++ [0, 0, 0, 0] ++ packRest p).take 8 = packHead p := by rw [List.append_assoc, List.take_left' hhl]
  have hd12 : (packHead p ++ [0, 0, 0, 0] ++ packRest p).drop 12 = packRest p := List.drop_left' hh4
  have hss := s_l13Sum (packHead p ++ [0, 0, 0, 0] ++ packRest p) (by omega)
  rw [ht8, hd12] at hss
  have hraw : packRaw p = packHead p ++ long (sumOf (packHead p ++ [0, 0, 0, 0] ++ packRest p)) ++ packRest p := rfl
  rw [hraw]
  generalize sumOf (packHead p ++ [0, 0, 0, 0] ++ packRest p) = sm at hss hsum
  generalize hout : packHead p ++ [0, 0, 0, 0] ++ packRest p = out at hol ht8 hd12 hss
  have e8 : (8 : Int).toNat = 8 := by decide
  have e12 : (12 : Int).toNat = 12 := by decide
  have et : List.take out.length out = out := List.take_length
  simp only [e8, e12, et, ht8, hd12, Int.toNat_natCast, List.drop_zero, hm, go_sem, ↓reduceIte]
  repeat' first
    | refine And.intro ?_ ?_
    | intro _
    | (refine call_pure (hP ▸ hss) rfl rfl ?_; simp only [e8, e12, et, ht8, hd12, Int.toNat_natCast, List.drop_zero, List.length_append, long_len, hhl, hm, go_sem, ↓reduceIte])
    | (refine call_pure (hP ▸ s_l1Long sm (by omega)) rfl rfl ?_; simp only [e8, e12, et, ht8, hd12, Int.toNat_natCast, List.drop_zero, List.length_append, long_len, hhl, hm, go_sem, ↓reduceIte])
  all_goals first
    | omega
    | rfl
theorem s_specPacketPut (p : Packet) (hl : p.chunks.length ≤ 1000000) : Spec Try.prog 48 0 [] [p.ro] (fun r _ _ _ => r = .st (packPut p)) := by
  refine mk48 rfl fun c hP hm => ?_
  unfold pc48 Packet.ro
  simp only [hm, go_sem, ↓reduceIte]
  refine call_pure (hP ▸ s_specPacketValid p hl) rfl rfl ?_
  unfold packPut
  cases hv : packB p
  · simp only [hm, go_sem, ↓reduceIte]
  · simp only [hm, go_sem, ↓reduceIte]
    refine call_pure (hP ▸ s_l13Put p hv) rfl rfl ?_
    simp only [hm, go_sem, ↓reduceIte]
end Go.Cap

/- Contracts: the reference reads parts, inits and receipts. -/
namespace Go.Cap
open Go Go.Proofs
set_option maxRecDepth 100000
set_option linter.unusedSimpArgs false
set_option linter.unusedVariables false
attribute [local irreducible] Call Run Spec Le

theorem tdiv_nn {a b : Int} (h : 0 ≤ a) : a.tdiv b = a / b := Int.tdiv_eq_ediv_of_nonneg h
theorem tmod_nn {a b : Int} (h : 0 ≤ a) : a.tmod b = a % b := Int.tmod_eq_emod_of_nonneg h
theorem beq_dec (a b : Int) : (a == b) = decide (a = b) := by by_cases h : a = b <;> simp [h]
theorem inB_iff {a b c : Int} : inB a b c = true ↔ b ≤ a ∧ a ≤ c := by unfold inB; simp
theorem dataGet_none {k : Chunk} (h : k.kind = 0 → inB k.flags 0 7 = true → 6 ≤ k.body.length → dataB (dataOf k) = true → False) : dataGet k = none := by
  unfold dataGet
  rw [if_neg]
  simp only [Bool.and_eq_true, decide_eq_true_eq]
  rintro ⟨⟨⟨h1, h2⟩, h3⟩, h4⟩
  exact h h1 h2 h3 h4
theorem dataGet_some {k : Chunk} (h1 : k.kind = 0) (h2 : inB k.flags 0 7 = true) (h3 : 6 ≤ k.body.length) (h4 : dataB (dataOf k) = true) : dataGet k = some (dataOf k) := by
  unfold dataGet
  rw [if_pos]
  simp only [Bool.and_eq_true, decide_eq_true_eq]
  exact ⟨⟨⟨h1, h2⟩, h3⟩, h4⟩
theorem initGet_none {k : Chunk} (h : (k.kind = 1 ∨ k.kind = 2) → k.flags = 0 → k.body.length = 10 → initB (initOf k) = true → False) : initGet k = none := by
  unfold initGet
  rw [if_neg]
  simp only [Bool.and_eq_true, decide_eq_true_eq]
  rintro ⟨⟨⟨h1, h2⟩, h3⟩, h4⟩
  exact h h1 h2 h3 h4
theorem initGet_some {k : Chunk} (h1 : k.kind = 1 ∨ k.kind = 2) (h2 : k.flags = 0) (h3 : k.body.length = 10) (h4 : initB (initOf k) = true) : initGet k = some (initOf k) := by
  unfold initGet
  rw [if_pos]
  simp only [Bool.and_eq_true, decide_eq_true_eq]
  exact ⟨⟨⟨h1, h2⟩, h3⟩, h4⟩
end Go.Cap

/- Contracts: the program reads numbers, parts and inits. -/
namespace Go.Cap
open Go Go.Proofs
set_option maxRecDepth 100000
set_option linter.unusedSimpArgs false
set_option linter.unusedVariables false
attribute [local irreducible] Call Run Spec Le

theorem or64 {a b k : Nat} (hb : b < 2 ^ k) (h : a * 2 ^ k + b < 2 ^ 62) : bitOr .i64 ((a * 2 ^ k : Nat) : Int) (b : Int) = ((a * 2 ^ k + b : Nat) : Int) := by
  have hb62 : b < 2 ^ 64 := by omega
  have ha62 : a * 2 ^ k < 2 ^ 64 := by omega
  have e3 : a * 2 ^ k ||| b = a * 2 ^ k + b := by
    have := Nat.shiftLeft_add_eq_or_of_lt hb a
    rw [Nat.shiftLeft_eq] at this
    exact this.symm
  have e0 : bitOr .i64 ((a * 2 ^ k : Nat) : Int) (b : Int) = IntKind.i64.wrap ((BitVec.ofInt 64 ((a * 2 ^ k : Nat) : Int) ||| BitVec.ofInt 64 (b : Int) : BitVec 64).toNat : Nat) := rfl
  rw [e0, BitVec.ofInt_natCast, BitVec.ofInt_natCast, BitVec.toNat_or, BitVec.toNat_ofNat, BitVec.toNat_ofNat, Nat.mod_eq_of_lt ha62, Nat.mod_eq_of_lt hb62, e3, wrap64 (by omega) (by omega)]
theorem shl64 {a k : Nat} (hk : k ≤ 64) (h : a * 2 ^ k < 2 ^ 62) : shiftL .i64 (a : Int) (k : Int) = ((a * 2 ^ k : Nat) : Int) := by
  unfold shiftL
  have : min (k : Int).toNat IntKind.i64.bits = k := by rw [Int.toNat_natCast]; exact Nat.min_eq_left hk
  rw [this]
  have e : (a : Int) * 2 ^ k = ((a * 2 ^ k : Nat) : Int) := by simp
  rw [e, wrap64 (by omega) (by omega)]
theorem word_or (a b : UInt8) : bitOr .i64 (shiftL .i64 (a.toNat : Int) 8) (b.toNat : Int) = 256 * (a.toNat : Int) + b.toNat := by
  have ha := a.toNat_lt
  have hb := b.toNat_lt
  have h1 := shl64 (a := a.toNat) (k := 8) (by omega) (by omega)
  have h2 := or64 (a := a.toNat) (b := b.toNat) (k := 8) (by omega) (by omega)
  rw [show (8 : Int) = ((8 : Nat) : Int) from rfl, h1, h2]
  omega
theorem long_or (a b c d : UInt8) : bitOr .i64 (bitOr .i64 (bitOr .i64 (shiftL .i64 (a.toNat : Int) 24) (shiftL .i64 (b.toNat : Int) 16)) (shiftL .i64 (c.toNat : Int) 8)) (d.toNat : Int) = 65536 * (256 * (a.toNat : Int) + b.toNat) + (256 * (c.toNat : Int) + d.toNat) := by
  have ha := a.toNat_lt
  have hb := b.toNat_lt
  have hc := c.toNat_lt
  have hd := d.toNat_lt
  have h1 := shl64 (a := a.toNat) (k := 24) (by omega) (by omega)
  have h2 := shl64 (a := b.toNat) (k := 16) (by omega) (by omega)
  have h3 := shl64 (a := c.toNat) (k := 8) (by omega) (by omega)
  have o1 := or64 (a := a.toNat) (b := b.toNat * 2 ^ 16) (k := 24) (by omega) (by omega)
  have e1 : a.toNat * 2 ^ 24 + b.toNat * 2 ^ 16 = (a.toNat * 2 ^ 8 + b.toNat) * 2 ^ 16 := by omega
  rw [e1] at o1
  obtain ⟨x, hx⟩ : ∃ x, x = a.toNat * 2 ^ 8 + b.toNat := ⟨_, rfl⟩
  rw [← hx] at o1
  have hx1 : x < 65536 := by omega
  have o2 := or64 (a := x) (b := c.toNat * 2 ^ 8) (k := 16) (by omega) (by omega)
  have e2 : x * 2 ^ 16 + c.toNat * 2 ^ 8 = (x * 2 ^ 8 + c.toNat) * 2 ^ 8 := by clear o1 o2 h1 h2 h3 e1; omega
  rw [e2] at o2
  obtain ⟨y, hy⟩ : ∃ y, y = x * 2 ^ 8 + c.toNat := ⟨_, rfl⟩
  rw [← hy] at o2
  have hy1 : y < 16777216 := by clear o1 o2 e2 h1 h2 h3 e1; omega
  have o3 := or64 (a := y) (b := d.toNat) (k := 8) (by clear o1 o2 e2 h1 h2 h3 e1; omega) (by clear o1 o2 e2 h1 h2 h3 e1; omega)
  rw [show (24 : Int) = ((24 : Nat) : Int) from rfl, show (16 : Int) = ((16 : Nat) : Int) from rfl, show (8 : Int) = ((8 : Nat) : Int) from rfl, h1, h2, h3, o1, o2, o3]
  omega
theorem wrap_byte (a : UInt8) : IntKind.i64.wrap (a.toNat : Int) = a.toNat := by have := a.toNat_lt; exact wrap64 (by omega) (by omega)
theorem s_WordGet (s : List UInt8) (i : Int) (h : 0 ≤ i ∧ i + 2 ≤ s.length) (hs : s.length ≤ 1000000000) : Spec Try.prog 157 0 [] [.st s, .i i] (fun r _ _ _ => r = .tup [.i (at2 s i.toNat), .bo true]) := by
  refine mk157 rfl fun c hP hm => ?_
  unfold pc157
  have w1 : IntKind.i64.wrap ((s.length : Int) - 2) = (s.length : Int) - 2 := wrap64 (by omega) (by omega)
  have w2 : IntKind.i64.wrap (i + 1) = i + 1 := wrap64 (by omega) (by omega)
  have e : (i + 1).toNat = i.toNat + 1 := by omega
  simp only [hm, go_sem, ↓reduceIte]
  simp only [w1, w2, e, wrap_byte, word_or]
  repeat' first | refine And.intro ?_ ?_ | intro _
  all_goals first
    | omega
    | rfl
theorem s_LongGet (s : List UInt8) (i : Int) (h : 0 ≤ i ∧ i + 4 ≤ s.length) (hs : s.length ≤ 1000000000) : Spec Try.prog 156 0 [] [.st s, .i i] (fun r _ _ _ => r = .tup [.i (at4 s i.toNat), .bo true]) := by
  refine mk156 rfl fun c hP hm => ?_
  unfold pc156
  have w1 : IntKind.i64.wrap ((s.length : Int) - 4) = (s.length : Int) - 4 := wrap64 (by omega) (by omega)
  have w2 : IntKind.i64.wrap (i + 1) = i + 1 := wrap64 (by omega) (by omega)
  have w3 : IntKind.i64.wrap (i + 2) = i + 2 := wrap64 (by omega) (by omega)
  have w4 : IntKind.i64.wrap (i + 3) = i + 3 := wrap64 (by omega) (by omega)
  have e : (i + 1).toNat = i.toNat + 1 := by omega
  have e2 : (i + 2).toNat = i.toNat + 2 := by omega
  have e3 : (i + 3).toNat = i.toNat + 3 := by omega
  simp only [hm, go_sem, ↓reduceIte]
  simp only [w1, w2, w3, w4, e, e2, e3, wrap_byte, long_or]
  repeat' first | refine And.intro ?_ ?_ | intro _
  all_goals first
    | omega
    | rfl
theorem and_flags {f : Int} (h : 0 ≤ f ∧ f ≤ 7) : (bitAnd .i64 f 2 != 0) = decide (f / 2 % 2 = 1) ∧ (bitAnd .i64 f 1 != 0) = decide (f % 2 = 1) ∧ (bitAnd .i64 f 4 != 0) = decide (f / 4 = 1) := by
  have : f = 0 ∨ f = 1 ∨ f = 2 ∨ f = 3 ∨ f = 4 ∨ f = 5 ∨ f = 6 ∨ f = 7 := by omega
  rcases this with rfl | rfl | rfl | rfl | rfl | rfl | rfl | rfl <;> decide
theorem dataOf_and {k : Chunk} (hf : inB k.flags 0 7 = true) : dataOf k = ⟨at2 k.body 0, at2 k.body 2, at2 k.body 4, bitAnd .i64 k.flags 2 != 0, bitAnd .i64 k.flags 1 != 0, bitAnd .i64 k.flags 4 != 0, List.drop 6 (List.take ((k.body.length : Int)).toNat k.body)⟩ := by
  obtain ⟨h1, h2, h3⟩ := and_flags (inB_iff.1 hf)
  rw [h1, h2, h3, Int.toNat_natCast, List.take_length]
  rfl
theorem s_implDataGet (k : Chunk) (hs : k.body.length ≤ 1000000000) : Spec Try.prog 172 0 [] [k.av] (fun r _ _ _ => r = .tup [((dataGet k).getD noData).av, .bo (dataGet k).isSome]) := by
  refine mk172 rfl fun c hP hm => ?_
  unfold pc172 Chunk.av
  simp only [hm, go_sem, ↓reduceIte]
  repeat' first
    | refine And.intro ?_ ?_
    | intro _
    | (refine call_pure (hP ▸ s_WordGet _ _ (by omega) hs) rfl rfl ?_; simp only [hm, go_sem, ↓reduceIte])
    | (refine call_pure (hP ▸ s_dataOk (⟨at2 k.body 0, at2 k.body 2, at2 k.body 4, bitAnd .i64 k.flags 2 != 0, bitAnd .i64 k.flags 1 != 0, bitAnd .i64 k.flags 4 != 0, List.drop 6 (List.take ((k.body.length : Int)).toNat k.body)⟩) (by simp; omega)) rfl rfl ?_; simp only [hm, go_sem, ↓reduceIte])
  all_goals first
    | omega
    | (rw [dataGet_none (k := k) fun h1 h2 h3 h4 => by have := inB_iff.1 h2; omega]; rfl)
    | (rename_i hB
       have hf : inB k.flags 0 7 = true := inB_iff.2 (by omega)
       rw [dataGet_some (k := k) (by omega) hf (by omega) (by rw [dataOf_and hf]; exact hB), dataOf_and hf]; rfl)
    | (rename_i hB
       have hf : inB k.flags 0 7 = true := inB_iff.2 (by omega)
       rw [dataGet_none (k := k) fun h1 h2 h3 h4 => by rw [dataOf_and hf, hB] at h4; cases h4]; rfl)
theorem s_implInitGet (k : Chunk) (hs : k.body.length ≤ 1000000000) : Spec Try.prog 107 0 [] [k.av] (fun r _ _ _ => r = .tup [((initGet k).getD noInit).av, .bo (initGet k).isSome]) := by
  refine mk107 rfl fun c hP hm => ?_
  unfold pc107 Chunk.av
  simp only [hm, go_sem, ↓reduceIte]
  repeat' first
    | refine And.intro ?_ ?_
    | intro _
    | (refine call_pure (hP ▸ s_WordGet _ _ (by omega) hs) rfl rfl ?_; simp only [hm, go_sem, ↓reduceIte])
    | (refine call_pure (hP ▸ s_LongGet _ _ (by omega) hs) rfl rfl ?_; simp only [hm, go_sem, ↓reduceIte])
    | (refine call_pure (hP ▸ s_initOk (initOf k)) rfl rfl ?_; simp only [hm, go_sem, ↓reduceIte])
  all_goals first
    | omega
    | (rename_i hB; rw [initGet_some (k := k) (by omega) (by omega) (by omega) (by exact hB)]; rfl)
    | (rename_i hB; rw [initGet_none (k := k) fun h1 h2 h3 h4 => by rw [hB] at h4; cases h4]; rfl)
    | (rw [initGet_none (k := k) fun h1 h2 h3 h4 => by first | omega | (simp_all; done)]; rfl)
end Go.Cap

/- Contracts: steps of an association (the reference's): parts and receipts. -/
namespace Go.Cap
open Go Go.Proofs
set_option maxRecDepth 100000
set_option linter.unusedSimpArgs false
set_option linter.unusedVariables false
attribute [local irreducible] Call Run Spec Le

/-- What holds of a side that is watched. -/
def SW (s : Side) : Prop := (0 ≤ s.first ∧ s.first < 65536) ∧ s.sent.length ≤ 12 ∧ ∀ d ∈ s.sent, dataB d = true
def AW (a : Assoc) : Prop := SW a.a ∧ SW a.b
theorem AW.own {a : Assoc} (h : AW a) (b : Bool) : SW (a.own b) := by cases b; exact h.1; exact h.2
theorem AW.other {a : Assoc} (h : AW a) (b : Bool) : SW (a.other b) := by cases b; exact h.2; exact h.1
theorem AW.put {a : Assoc} (h : AW a) (b : Bool) {s : Side} (hs : SW s) : AW (a.put b s) := by cases b; exact ⟨hs, h.2⟩; exact ⟨h.1, hs⟩
theorem dataGet_ok {k : Chunk} {d : Data} (h : dataGet k = some d) : dataB d = true := by
  unfold dataGet at h
  split at h
  · rename_i hc
    simp only [Bool.and_eq_true] at hc
    cases h; exact hc.2
  · cases h
theorem initGet_ok {k : Chunk} {d : Init} (h : initGet k = some d) : initB d = true := by
  unfold initGet at h
  split at h
  · rename_i hc
    simp only [Bool.and_eq_true] at hc
    cases h; exact hc.2
  · cases h
theorem sackGet_ok {k : Chunk} {d : Sack} (h : sackGet k = some d) : sackB d = true := by
  unfold sackGet at h
  split at h
  · rename_i hc
    simp only [Bool.and_eq_true] at hc
    cases h; exact hc.2
  · cases h
end Go.Cap

/- Contracts: steps of an association (the reference's): parts that are read. -/
namespace Go.Cap
open Go Go.Proofs
set_option maxRecDepth 100000
set_option linter.unusedSimpArgs false
set_option linter.unusedVariables false
attribute [local irreducible] Call Run Spec Le

set_option maxHeartbeats 2000000 in
def noSack : Sack := ⟨0, []⟩
end Go.Cap

/- Contracts: the reference reads receipts, and takes them. -/
namespace Go.Cap
open Go Go.Proofs
set_option maxRecDepth 100000
set_option linter.unusedSimpArgs false
set_option linter.unusedVariables false
attribute [local irreducible] Call Run Spec Le

theorem gapsOf_range : ∀ l : List UInt8, gapsOf l = (List.range (l.length / 4)).map fun i => (⟨at2 l (4 * i), at2 l (4 * i + 2)⟩ : Gap)
  | a :: b :: c :: d :: l => by
    rw [gapsOf, gapsOf_range l]
    have e : (a :: b :: c :: d :: l).length / 4 = l.length / 4 + 1 := by simp only [List.length_cons]; omega
    rw [e, List.range_succ_eq_map, List.map_cons, List.map_map]
    refine congr (congrArg List.cons rfl) ?_
    refine List.map_congr_left fun i _ => ?_
    show (⟨at2 l (4 * i), at2 l (4 * i + 2)⟩ : Gap) = ⟨at2 (a :: b :: c :: d :: l) (4 * (i + 1)), at2 (a :: b :: c :: d :: l) (4 * (i + 1) + 2)⟩
    have e1 : 4 * (i + 1) = 4 * i + 1 + 1 + 1 + 1 := by omega
    have e2 : 4 * (i + 1) + 2 = (4 * i + 2) + 1 + 1 + 1 + 1 := by omega
    rw [e2, e1]
    unfold at2
    have e3 : 4 * i + 1 + 1 + 1 + 1 + 1 = (4 * i + 1) + 1 + 1 + 1 + 1 := by omega
    have e4 : 4 * i + 2 + 1 + 1 + 1 + 1 + 1 = (4 * i + 2 + 1) + 1 + 1 + 1 + 1 := by omega
    rw [e3, e4]
    simp only [List.getD_cons_succ]
  | [] => by simp [gapsOf]
  | [_] => by simp [gapsOf]
  | [_, _] => by simp [gapsOf]
  | [_, _, _] => by simp [gapsOf]
theorem at2_drop (s : List UInt8) (k i : Nat) : at2 (s.drop k) i = at2 s (k + i) := by
  unfold at2
  simp only [List.getD_eq_getElem?_getD, List.getElem?_drop, Nat.add_assoc]
def gapAt (s : List UInt8) (i : Nat) : Gap := ⟨at2 s (2 + 4 * i), at2 s (2 + 4 * i + 2)⟩
theorem gapsOf_body (s : List UInt8) : gapsOf (s.drop 2) = (List.range ((s.length - 2) / 4)).map (gapAt s) := by
  rw [gapsOf_range, List.length_drop]
  refine List.map_congr_left fun i _ => ?_
  simp only [gapAt, at2_drop, Nat.add_assoc]
theorem range_map_take {α : Type} (f : Nat → α) {n i : Nat} (h : i < n) : ((List.range n).map f).take (i + 1) = ((List.range n).map f).take i ++ [f i] := by
  rw [List.take_add_one]
  simp [h]
theorem lastTo_eq {l : List Gap} (h : 0 < l.length) : lastTo l = (l[l.length - 1]'(by omega)).to := by
  unfold lastTo
  rw [List.getLast?_eq_getElem?, List.getElem?_eq_getElem (by omega)]
theorem gapsB_to : ∀ {l : List Gap} {last : Int}, 0 ≤ last → gapsB last l = true → ∀ g ∈ l, 0 ≤ g.to ∧ g.to ≤ 16
  | [], _, _, _, g, hg => by cases hg
  | x :: l, last, h0, h, g, hg => by
    simp only [gapsB, Bool.and_eq_true, decide_eq_true_eq] at h
    rcases List.mem_cons.1 hg with rfl | hg
    · omega
    · exact gapsB_to (l := l) (last := x.to) (by omega) h.2 g hg
end Go.Cap

/- Contracts: a chunk, the tag, a packet alone, and the step of an association (the reference's). -/
namespace Go.Cap
open Go Go.Proofs
set_option maxRecDepth 100000
set_option linter.unusedSimpArgs false
set_option linter.unusedVariables false
attribute [local irreducible] Call Run Spec Le

theorem stepInit_ok (a : Assoc) (byB : Bool) (c : Chunk) (h : AW a) : AW (stepInit a byB c).1 ∧ 0 ≤ (stepInit a byB c).2 ∧ (stepInit a byB c).2 ≤ 11 := by
  unfold stepInit
  simp only
  split
  · exact ⟨h, by simp, by simp⟩
  · cases hg : initGet c with
    | none => exact ⟨h, by simp, by simp⟩
    | some x =>
      simp only
      split
      · split
        · exact ⟨h, by simp, by simp⟩
        · exact ⟨h, by simp, by simp⟩
      · refine ⟨AW.put (a := { a with state := a.state + 1 }) h byB ?_, by simp, by simp⟩
        have := initGet_ok hg
        simp only [initB, serialB, Bool.and_eq_true, decide_eq_true_eq] at this
        exact ⟨by simp only; omega, by simp, by simp⟩
theorem stepData_ok (a : Assoc) (byB : Bool) (c : Chunk) (h : AW a) : AW (stepData a byB c).1 ∧ 0 ≤ (stepData a byB c).2 ∧ (stepData a byB c).2 ≤ 11 := by
  unfold stepData
  simp only
  split
  · exact ⟨h, by simp, by simp⟩
  · cases hg : dataGet c with
    | none => exact ⟨h, by simp, by simp⟩
    | some d =>
      simp only
      split
      · split
        · exact ⟨h, by simp, by simp⟩
        · exact ⟨h, by simp, by simp⟩
      split
      · exact ⟨h, by simp, by simp⟩
      split
      · exact ⟨h, by simp, by simp⟩
      split
      · exact ⟨h, by simp, by simp⟩
      split
      · exact ⟨h, by simp, by simp⟩
      split
      · exact ⟨h, by simp, by simp⟩
      · rename_i hlen
        obtain ⟨h1, h2, h3⟩ := h.own byB
        refine ⟨h.put byB ⟨h1, by simp only [List.length_append, List.length_cons, List.length_nil]; omega, fun x hx => ?_⟩, by simp, by simp⟩
        rcases List.mem_append.1 hx with hx | hx
        · exact h3 x hx
        · simp only [List.mem_singleton] at hx; subst hx; exact dataGet_ok hg
theorem stepSack_ok (a : Assoc) (byB : Bool) (c : Chunk) (h : AW a) : AW (stepSack a byB c).1 ∧ 0 ≤ (stepSack a byB c).2 ∧ (stepSack a byB c).2 ≤ 11 := by
  unfold stepSack
  simp only
  split
  · exact ⟨h, by simp, by simp⟩
  · cases hg : sackGet c with
    | none => exact ⟨h, by simp, by simp⟩
    | some x =>
      simp only
      split
      · exact ⟨h, by simp, by simp⟩
      · exact ⟨h.put (!byB) (h.other byB), by simp, by simp⟩
theorem stepEnd_ok (a : Assoc) (byB : Bool) (k : Int) (h : AW a) : AW (stepEnd a byB k).1 ∧ 0 ≤ (stepEnd a byB k).2 ∧ (stepEnd a byB k).2 ≤ 11 := by
  unfold stepEnd
  simp only
  repeat' split
  all_goals exact ⟨h, by simp, by simp⟩
theorem stepRest_ok (a : Assoc) (byB : Bool) (k : Int) (h : AW a) : AW (stepRest a byB k).1 ∧ 0 ≤ (stepRest a byB k).2 ∧ (stepRest a byB k).2 ≤ 11 := by
  unfold stepRest
  repeat' split
  all_goals exact ⟨h, by simp, by simp⟩
theorem stepChunk_ok (a : Assoc) (byB : Bool) (c : Chunk) (h : AW a) : AW (stepChunk a byB c).1 ∧ 0 ≤ (stepChunk a byB c).2 ∧ (stepChunk a byB c).2 ≤ 11 := by
  unfold stepChunk
  split
  · exact stepInit_ok a byB c h
  split
  · exact stepData_ok a byB c h
  split
  · exact stepSack_ok a byB c h
  split
  · exact stepEnd_ok a byB _ h
  · exact stepRest_ok a byB _ h
abbrev Assoc.cellsA (a : Assoc) : List AV := [.i a.fr, .i a.to, .i a.state, .bo a.byB, .i a.a.tag, .i a.a.streams, .i a.a.first, .r (.ro none (a.a.sent.map Data.row)), .i a.a.acked, .i a.b.tag, .i a.b.streams, .i a.b.first, .r (.ro none (a.b.sent.map Data.row)), .i a.b.acked]
end Go.Cap

/- Contracts: the step of an association (the reference's). -/
namespace Go.Cap
open Go Go.Proofs
set_option maxRecDepth 100000
set_option linter.unusedSimpArgs false
set_option linter.unusedVariables false
attribute [local irreducible] Call Run Spec Le

theorem sideLoop_data {add : Int → Int → Int} {s : Side} : ∀ {i : Nat} {l : List Data}, sideLoop add s i l = true → ∀ d ∈ l, dataB d = true
  | _, [], _, _, h => by cases h
  | i, x :: l, h, d, hd => by
    simp only [sideLoop, partB, Bool.and_eq_true] at h
    rcases List.mem_cons.1 hd with rfl | hd
    · exact h.1.1.1.1
    · exact sideLoop_data h.2 d hd
theorem sideB_SW {s : Side} (h : sideB s = true) : SW s := by
  unfold sideB at h
  split at h
  · simp only [noneB, Bool.and_eq_true, beq_iff_eq, decide_eq_true_eq] at h
    obtain ⟨⟨⟨_, h2⟩, h3⟩, _⟩ := h
    have : s.sent = [] := List.length_eq_zero_iff.1 h3
    exact ⟨by omega, by omega, by rw [this]; simp⟩
  · simp only [headB, Bool.and_eq_true, decide_eq_true_eq, serialB] at h
    exact ⟨by omega, by omega, sideLoop_data h.2⟩
theorem assocB_AW {a : Assoc} (h : assocB a = true) : AW a := by
  have := assocB_iff.1 h
  exact ⟨sideB_SW this.2.2.2.2.1, sideB_SW this.2.2.2.2.2.1⟩
end Go.Cap

/- Contracts: captures are valid; the records of a talk, twice. -/
namespace Go.Cap
open Go Go.Proofs
set_option maxRecDepth 100000
set_option linter.unusedSimpArgs false
set_option linter.unusedVariables false
attribute [local irreducible] Call Run Spec Le

theorem recsFrom_drop {l : List Rec} {i : Nat} (h : i < l.length) (last : Int) : recsFrom last (l.drop i) = (inB l[i].time last 4294967295 && decide (l[i].text.length ≤ 120) && recsFrom l[i].time (l.drop (i + 1))) := by
  rw [List.drop_eq_getElem_cons h]; rfl
theorem s_implCaptureValid (l : List Rec) : Spec Try.prog 47 0 [] [.r (.ro none (l.map Rec.row))] (fun r _ _ _ => r = .bo (captB l)) := by
  refine mr47 rfl fun c hP hm => ?_
  unfold pc47
  refine run_seq (run_wpc _ _ _ _ _ ?_)
  simp only [hm, go_sem, ↓reduceIte]
  refine run_seq (run_wpc _ _ _ _ _ ?_)
  simp only [hm, go_sem, ↓reduceIte]
  repeat' first | refine And.intro ?_ ?_ | intro _
  all_goals first
    | (apply bo_inj; symm; rw [Bool.eq_false_iff]; intro hh; simp only [captB, Bool.and_eq_true, decide_eq_true_eq] at hh; omega)
    | skip
  refine run_wpc _ _ _ _ _ ?_
  simp only [hm, go_sem, ↓reduceIte]
  intro _
  refine lp_wpc (α := Nat × Int) (fun y => ⟨[(3, .i y.2), (9, .r (.ro none (l.map Rec.row))), (10, .i l.length), (11, .i y.1)], [], 0, []⟩)
    (fun y => y.1 ≤ l.length ∧ recsFrom y.2 (l.drop y.1) = recsFrom 0 l) (fun y => l.length - y.1) (0, 0) ⟨Nat.zero_le _, rfl⟩ (by (refine le_ev [] ?_; simp only [hm, go_sem, ↓reduceIte]; first | done | rfl | exact ⟨rfl, rfl⟩)) ?_
  rintro ⟨i, last⟩ ⟨hi, hI⟩
  simp only at hi hI
  unfold pc47l0
  rcases Nat.lt_or_ge i l.length with hil | hil
  · have hw : IntKind.i64.wrap ((i : Int) + 1) = ((i + 1 : Nat) : Int) := by rw [wrap64 (by omega) (by omega)]; omega
    rw [recsFrom_drop hil] at hI
    have hg := getD_map (f := Rec.row) hil
    generalize l[i] = x at hI hg
    have hok : recsFrom 0 l = false → AV.r (RV.b false) = AV.bo (captB l) := fun h => by simp [captB, h]
    unfold inB at hI
    simp only [hw, Int.toNat_natCast, hg, Rec.row, hm, go_sem, ↓reduceIte]
    repeat' first | refine And.intro ?_ ?_ | intro _
    all_goals first
      | omega
      | rfl
      | (refine hok ?_; rw [← hI, decide_eq_false (by omega)]; rfl)
      | (refine hok ?_; rw [← hI, decide_eq_false (p := x.text.length ≤ 120) (by omega)]; simp)
      | (rw [decide_eq_true (by omega), decide_eq_true (p := x.text.length ≤ 120) (by omega)] at hI
         refine ⟨(i + 1, x.time), ⟨hil, by simpa using hI⟩, ?_, ?_⟩
         · simp only; omega
         · (refine le_ev [] ?_; simp only [hm, go_sem, ↓reduceIte]; first | done | rfl | exact ⟨rfl, rfl⟩))
  · have : i = l.length := by omega
    subst this
    rw [List.drop_eq_nil_of_le (Nat.le_refl _)] at hI
    simp only [hm, go_sem, ↓reduceIte]
    repeat' first | refine And.intro ?_ ?_ | intro _
    all_goals first
      | omega
      | (apply bo_inj; symm; simp only [captB, Bool.and_eq_true, decide_eq_true_eq]; exact ⟨hI.symm, by omega⟩)
theorem s_l14Record (x : Rec) (last : Int) : Spec Try.prog 103 0 [] [x.av, .i last] (fun r _ _ _ => r = .bo (inB x.time last 4294967295 && decide (x.text.length ≤ 120))) := by
  refine mk103 rfl fun c hP hm => ?_
  unfold pc103 Rec.av
  simp only [hm, go_sem, ↓reduceIte]
  repeat' first | refine And.intro ?_ ?_ | intro _ | (refine c_l6In hP ?_; simp only [hm, go_sem, ↓reduceIte])
  all_goals (apply bo_inj; rw [Bool.eq_iff_iff]; simp [*] <;> omega)
theorem s_specCaptureValid (l : List Rec) (hl : l.length ≤ 1000000000) : Spec Try.prog 49 0 [] [.r (.ro none (l.map Rec.row))] (fun r _ _ _ => r = .bo (captB l)) := by
  refine mk49 rfl fun c hP hm => ?_
  unfold pc49
  simp only [hm, go_sem, ↓reduceIte]
  refine lp_wpc (α := Nat × Int) (fun y => ⟨[(0, .r (.ro none (l.map Rec.row))), (3, .i y.2), (4, .i y.1)], [], 0, []⟩)
    (fun y => y.1 ≤ l.length ∧ recsFrom y.2 (l.drop y.1) = recsFrom 0 l) (fun y => l.length - y.1) (0, 0) ⟨Nat.zero_le _, rfl⟩ (by (refine le_ev [] ?_; simp only [hm, go_sem, ↓reduceIte]; first | done | rfl | exact ⟨rfl, rfl⟩)) ?_
  rintro ⟨i, last⟩ ⟨hi, hI⟩
  simp only at hi hI
  unfold pc49l0
  rcases Nat.lt_or_ge i l.length with hil | hil
  · have hw : IntKind.i64.wrap ((i : Int) + 1) = ((i + 1 : Nat) : Int) := by rw [wrap64 (by omega) (by omega)]; omega
    rw [recsFrom_drop hil] at hI
    have hg := getD_map (f := Rec.row) hil
    generalize l[i] = x at hI hg
    have hok : recsFrom 0 l = false → AV.r (RV.b false) = AV.bo (captB l) := fun h => by simp [captB, h]
    have hcr := s_l14Record x last
    unfold Rec.av at hcr
    generalize (inB x.time last 4294967295 && decide (x.text.length ≤ 120)) = B at hI hcr
    simp only [hw, Int.toNat_natCast, hg, Rec.row, hm, go_sem, ↓reduceIte]
    repeat' first | refine And.intro ?_ ?_ | intro _ | (refine call_pure (hP ▸ hcr) rfl rfl ?_; simp only [hw, Int.toNat_natCast, hg, Rec.row, hm, go_sem, ↓reduceIte])
    all_goals first
      | omega
      | rfl
      | (rename_i hb; subst hb; refine hok ?_; rw [← hI]; rfl)
      | (rename_i hb; subst hb
         refine ⟨(i + 1, x.time), ⟨hil, by simpa using hI⟩, ?_, ?_⟩
         · simp only; omega
         · (refine le_ev [] ?_; simp only [hm, go_sem, ↓reduceIte]; first | done | rfl | exact ⟨rfl, rfl⟩))
  · have : i = l.length := by omega
    subst this
    rw [List.drop_eq_nil_of_le (Nat.le_refl _)] at hI
    simp only [hm, go_sem, ↓reduceIte]
    repeat' first | refine And.intro ?_ ?_ | intro _
    all_goals first
      | omega
      | (apply bo_inj; rw [Bool.eq_iff_iff]; simp only [captB, ← hI, recsFrom, Bool.true_and, decide_eq_true_eq]; omega)
/-- Records whose times may go round. -/
def recsW (l : List Packet) (begin : Int) : List Rec := (List.range l.length).map fun (i : Nat) => ⟨IntKind.i64.wrap (begin + (i : Int)), packPut (l.getD i default)⟩
theorem recsW_len (l : List Packet) (begin : Int) : (recsW l begin).length = l.length := by simp [recsW]
theorem recs_eq {l : List Packet} {begin : Int} (h : 0 ≤ begin ∧ begin ≤ 4294967295) (hl : l.length ≤ 1000) : recsW l begin = recsOf l begin := by
  unfold recsW recsOf
  refine List.map_congr_left fun i hi => ?_
  have := List.mem_range.1 hi
  rw [wrap64 (by omega) (by omega)]
theorem recs_bad {l : List Packet} {begin : Int} (h : 4294967295 < begin ∧ begin ≤ 9223372036854775807) (hl : l ≠ []) : captB (recsW l begin) = false ∧ captB (recsOf l begin) = false := by
  cases l with
  | nil => exact absurd rfl hl
  | cons p l =>
    have hi : inB begin 0 4294967295 = false := by unfold inB; rw [decide_eq_false (by omega)]
    have key : ∀ rs : List Rec, rs[0]? = some ⟨begin, packPut p⟩ → captB rs = false := fun rs hr => by
      cases rs with
      | nil => cases hr
      | cons x t =>
        have : x = ⟨begin, packPut p⟩ := by simpa using hr
        subst this
        simp [captB, recsFrom, hi]
    constructor
    · refine key _ ?_
      unfold recsW
      rw [List.getElem?_map, List.getElem?_range (by simp)]
      show some (Rec.mk (IntKind.i64.wrap (begin + ((0 : Nat) : Int))) (packPut p)) = _
      rw [wrap64 (by omega) (by omega)]; simp
    · refine key _ ?_
      unfold recsOf
      rw [List.getElem?_map, List.getElem?_range (by simp)]
      show some (Rec.mk (begin + ((0 : Nat) : Int)) (packPut p)) = _
      simp
theorem talkRecs_eq {t : Talk} {begin : Int} (hb : begin ≤ 9223372036854775807) (hl : (talkPk t).length ≤ 1000) : talkRecs t begin = if 0 ≤ begin ∧ captB (recsW (talkPk t) begin) = true then recsW (talkPk t) begin else [] := by
  unfold talkRecs
  by_cases h0 : 0 ≤ begin
  · by_cases h1 : begin ≤ 4294967295
    · rw [recs_eq ⟨h0, h1⟩ hl]
    · by_cases hn : talkPk t = []
      · rw [hn]; simp [recsOf, recsW]
      · obtain ⟨k1, k2⟩ := recs_bad (l := talkPk t) (begin := begin) ⟨by omega, hb⟩ hn
        rw [if_neg (by rw [k2]; simp), if_neg (by rw [k1]; simp)]
  · rw [if_neg (fun h => h0 h.1), if_neg (fun h => h0 h.1)]
theorem recsW_take {l : List Packet} {begin : Int} {i : Nat} (h : i < l.length) : (recsW l begin).take (i + 1) = (recsW l begin).take i ++ [⟨IntKind.i64.wrap (begin + (i : Int)), packPut l[i]⟩] := by
  have hi : i < (recsW l begin).length := by rw [recsW_len]; exact h
  have he : (recsW l begin)[i]? = some ⟨IntKind.i64.wrap (begin + (i : Int)), packPut l[i]⟩ := by
    unfold recsW
    rw [List.getElem?_map, List.getElem?_range h]
    simp [List.getD_eq_getElem?_getD, h]
  rw [take_get hi, Option.some.inj ((List.getElem?_eq_getElem hi).symm.trans he)]
theorem talkPk_small {t : Talk} : (talkPk t).length ≤ 60 := by
  by_cases hv : talkB t = true
  · have h1 := talkParts_12 t false hv
    have h2 := talkParts_12 t true hv
    rw [talkPk_len hv]; omega
  · have : talkPk t = [] := by unfold talkPk; rw [if_neg hv]
    rw [this]; simp
theorem talkPk_one {t : Talk} {i : Nat} (h : i < (talkPk t).length) : ((talkPk t)[i]).chunks.length ≤ 1000000 := by
  by_cases hv : talkB t = true
  · rw [(talkPk_props hv h).2.1]; decide
  · have : talkPk t = [] := by unfold talkPk; rw [if_neg hv]
    rw [this] at h; simp at h
theorem s_specTalkRecords (t : Talk) (begin : Int) (hb : begin ≤ 9223372036854775807) (hl : t.says.length ≤ 1048576) (hx : ∀ s ∈ t.says, s.text.length ≤ 1048576) : Spec Try.prog 12 0 [] [t.ro, .i begin] (New1 (.sl 0 0 (talkRecs t begin).length) 2 ((talkRecs t begin).map Rec.row)) := by
  refine Spec.new1 (r0 := .sl 0 0 (talkRecs t begin).length) (Q := fun r hp _ _ => ∃ b, r = .sl b 0 (talkRecs t begin).length ∧ hget hp b = some (.row 2 ((talkRecs t begin).map Rec.row))) ?_ (fun r hp nx gs h => h) (fun f g h => by simp only [go_sem, h])
  have hsm := talkPk_small (t := t)
  rw [talkRecs_eq hb (by omega)]
  have hone := fun i (h : i < (talkPk t).length) => talkPk_one h
  refine mr12 rfl fun c hP hm => ?_
  unfold pc12 Talk.ro Talk.av
  refine run_seq (run_wpc _ _ _ _ _ ?_)
  simp only [hm, go_sem, ↓reduceIte]
  refine run_seq (run_wpc _ _ _ _ _ ?_)
  simp only [hm, go_sem, ↓reduceIte]
  refine run_seq (run_wpc _ _ _ _ _ ?_)
  simp only [hm, go_sem, ↓reduceIte]
  refine call_dataP (hP ▸ s_specTalkPackets t hl hx) rfl rfl ?_
  simp only [hm, go_sem, ↓reduceIte]
  generalize talkPk t = l at hsm hone
  refine run_seq (run_wpc _ _ _ _ _ ?_)
  simp only [hm, go_sem, ↓reduceIte]
  refine run_exit 0 (fun t0 => t0 = ⟨[(1, .i begin), (5, .sl 0 0 (recsW l begin).length)], [(0, .row 2 ((recsW l begin).map Rec.row))], 1, []⟩) ?_ ?_
  · refine lp_wpc (α := Nat) (fun i => ⟨[(1, .i begin), (5, .sl 0 0 ((recsW l begin).take i).length), (6, .r (.ro none (l.map Packet.row))), (7, .i i)], [(0, .row 2 (((recsW l begin).take i).map Rec.row))], 1, []⟩)
      (fun i => i ≤ l.length) (fun i => l.length - i) 0 (Nat.zero_le _) (by rw [List.take_zero]; simp only [List.map_nil, List.length_nil]; (refine le_ev [(0, 1)] ?_; simp only [hm, go_sem, ↓reduceIte]; first | done | rfl | exact ⟨rfl, rfl⟩)) ?_
    intro i hi
    unfold pc12l0
    rcases Nat.lt_or_ge i l.length with hil | hil
    · have hw : IntKind.i64.wrap ((i : Int) + 1) = ((i + 1 : Nat) : Int) := by rw [wrap64 (by omega) (by omega)]; omega
      have hg := getD_map (f := Packet.row) hil
      have htk := recsW_take (begin := begin) hil
      have hc1 := hone i hil
      have hlt : ((recsW l begin).take i).length ≤ 60 := by rw [List.length_take]; omega
      generalize l[i] = p at hg htk hc1
      generalize (recsW l begin).take i = rs at htk hlt
      have hrt : List.take rs.length (rs.map Rec.row) = rs.map Rec.row := List.take_of_length_le (by simp)
      simp only [hw, hrt, Int.toNat_natCast, hg, Packet.row, hm, go_sem, ↓reduceIte]
      repeat' first | refine And.intro ?_ ?_ | intro _ | (refine call_pure (hP ▸ s_specPacketPut p hc1) rfl rfl ?_; simp only [hw, hrt, Int.toNat_natCast, hg, Packet.row, hm, go_sem, ↓reduceIte])
      all_goals first
        | omega
        | rfl
        | (refine ⟨i + 1, hil, by omega, ?_⟩
           rw [htk]
           simp only [List.map_append, List.length_append, List.length_cons, List.length_nil, List.map_cons, List.map_nil, Rec.row]
           (refine le_ev [(0, 0)] ?_; simp only [hm, go_sem, ↓reduceIte]; first | done | rfl | exact ⟨rfl, rfl⟩))
    · have : i = l.length := by omega
      subst this
      have htl : (recsW l begin).take l.length = recsW l begin := by rw [← recsW_len l begin, List.take_length]
      rw [htl]
      simp only [hm, go_sem, ↓reduceIte]
      repeat' first | refine And.intro ?_ ?_ | intro _
      all_goals first
        | omega
        | (refine ⟨_, rfl, ?_⟩; (refine le_ev [] ?_; simp only [hm, go_sem, ↓reduceIte]; first | done | rfl | exact ⟨rfl, rfl⟩))
  rintro t0 rfl
  rw [if_pos rfl]
  have hwl := recsW_len l begin
  generalize recsW l begin = rs at hwl
  refine run_wpc _ _ _ _ _ ?_
  simp only [hm, go_sem, ↓reduceIte]
  repeat' first | refine And.intro ?_ ?_ | intro _ | (refine call_flat (hP ▸ s_specCaptureValid rs (by omega)) rfl (.cons (Vw.full rfl (by simp)) .nil) ?_; simp only [hm, go_sem, ↓reduceIte])
  all_goals first
    | omega
    | (rename_i hv; rw [if_neg (fun h => by omega)]; exact ⟨1, rfl, rfl⟩)
    | (rename_i hv; rw [if_neg (fun h => by rw [hv] at h; cases h.2)]; exact ⟨1, rfl, rfl⟩)
    | (rename_i h0 hv; rw [if_pos ⟨by omega, hv⟩]; exact ⟨0, rfl, rfl⟩)
end Go.Cap

/- Contracts: the reference's monitor: its copy, its notes. -/
namespace Go.Cap
open Go Go.Proofs
set_option maxRecDepth 100000
set_option linter.unusedSimpArgs false
set_option linter.unusedVariables false
/-- Nil slices go into a call as empty data. -/
theorem call_denil {c : Cx} {f : Nat} {args : List AV} {s : St} {K : AV → St → Prop} (h : Call c f (args.map denil) s K) : Call c f args s K := by
  intro M ι w W vs hvs
  refine h M ι w W vs ⟨by rw [List.length_map]; exact hvs.1, fun j y v hy hv => ?_⟩
  rw [List.getElem?_map] at hy
  cases hj : args[j]? with
  | none => rw [hj] at hy; cases hy
  | some c0 =>
    rw [hj] at hy
    cases hy
    exact (hvs.2 j c0 v hj hv).denil
attribute [local irreducible] Call Run Spec Le
/-- A monitor with its own blocks. -/
def Mon.own (m : Mon) : AV := .agg [.i m.records, .sl 0 0 m.list.length, .sl 1 0 m.found.length]
end Go.Cap
