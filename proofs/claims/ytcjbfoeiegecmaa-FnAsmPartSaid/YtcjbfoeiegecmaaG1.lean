import Derived.Test.YtcjbfoeiegecmaaN8
/- Groups of parts, in plain terms: which messages an assembly gives. -/
namespace Go.Cap
open Go Go.Proofs
set_option linter.unusedSimpArgs false
set_option linter.unusedVariables false

theorem nd_inj {α : Type} {l : List α} (h : l.Nodup) {i j : Nat} (hi : i < l.length) (hj : j < l.length) (e : l[i] = l[j]) : i = j := by
  have hp := List.pairwise_iff_getElem.1 h
  rcases Nat.lt_trichotomy i j with h1 | h1 | h1
  · exact absurd e (hp i j hi hj h1)
  · exact h1
  · exact absurd e.symm (hp j i hj hi h1)
def d0 : Data := ⟨0, 0, 0, false, false, false, []⟩
def hd (g : List Data) : Data := g.headD d0
/-- The parts of one message. -/
structure Grp (g : List Data) : Prop where
  ne : g ≠ []
  first : ∀ j (h : j < g.length), g[j].first = decide (j = 0)
  last : ∀ j (h : j < g.length), g[j].last = decide (j + 1 = g.length)
  like : ∀ j (h : j + 1 < g.length), likeB g[j + 1] g[j] = true
  tsn : ∀ j (h : j + 1 < g.length), g[j + 1].tsn = l3 g[j].tsn 1
def msgG (g : List Data) : Msg := ⟨(hd g).stream, (hd g).ssn, (hd g).loose, g.flatMap Data.text⟩
def ord (s : Int) (g : List Data) : Bool := !(hd g).loose && (hd g).stream == s
def hasT (g : List Data) (x : Int) : Bool := g.any fun e => e.tsn == x
structure Grps (gs : List (List Data)) : Prop where
  grp : ∀ g ∈ gs, Grp g
  inj : ∀ d ∈ gs.flatten, ∀ e ∈ gs.flatten, d.tsn = e.tsn → d = e
  nd : gs.flatten.Nodup
  rng : ∀ d ∈ gs.flatten, 0 ≤ d.tsn ∧ d.tsn < 65536
  rank : ∀ i (h : i < gs.length), (hd gs[i]).loose = false → (hd gs[i]).ssn = ((gs.take i).countP (ord (hd gs[i]).stream) : Nat)
theorem Grps.mem {gs : List (List Data)} {g : List Data} {d : Data} (h : g ∈ gs) (hd : d ∈ g) : d ∈ gs.flatten := List.mem_flatten.2 ⟨g, h, hd⟩
theorem hd_eq {g : List Data} (h : 0 < g.length) : hd g = g[0] := by cases g with
  | nil => cases h
  | cons a l => rfl
theorem hasT_mem {gs : List (List Data)} (G : Grps gs) {g : List Data} (hg : g ∈ gs) {d : Data} (hd : d ∈ gs.flatten) : hasT g d.tsn = true ↔ d ∈ g := by
  unfold hasT
  rw [List.any_eq_true]
  constructor
  · rintro ⟨e, he, h⟩
    rw [G.inj d hd e (Grps.mem hg he) (by simpa using (beq_iff_eq.1 h).symm)]
    exact he
  · intro h; exact ⟨d, h, by simp⟩
/-- Groups that share a part are the same. -/
theorem flat_nd : ∀ {gs : List (List Data)}, gs.flatten.Nodup → ∀ {i j : Nat} (hi : i < gs.length) (hj : j < gs.length) {d : Data}, d ∈ gs[i] → d ∈ gs[j] → i = j
  | [], _, i, j, hi, _, _, _, _ => by simp at hi
  | g :: gs, h, i, j, hi, hj, d, h1, h2 => by
    rw [List.flatten_cons, List.nodup_append] at h
    obtain ⟨_, h3, h4⟩ := h
    cases i with
    | zero => cases j with
      | zero => rfl
      | succ j =>
        simp only [List.getElem_cons_zero, List.getElem_cons_succ] at h1 h2
        exact absurd rfl (h4 d h1 d (Grps.mem (List.getElem_mem _) h2))
    | succ i => cases j with
      | zero =>
        simp only [List.getElem_cons_zero, List.getElem_cons_succ] at h1 h2
        exact absurd rfl (h4 d h2 d (Grps.mem (List.getElem_mem _) h1))
      | succ j =>
        simp only [List.getElem_cons_succ] at h1 h2
        have := flat_nd h3 (i := i) (j := j) (by simpa using hi) (by simpa using hj) h1 h2
        omega
def ixOf (l : List Data) (d : Data) : Nat := (atIx l d.tsn).getD 0
/-- Where parts lie. -/
structure Sub (gs : List (List Data)) (l : List Data) : Prop where
  mem : ∀ d ∈ l, d ∈ gs.flatten
  nd : l.Nodup
theorem Sub.ix {gs : List (List Data)} (G : Grps gs) {l : List Data} (S : Sub gs l) {d : Data} (h : d ∈ l) : ∃ i, atIx l d.tsn = some i ∧ ixOf l d = i ∧ ∃ hi : i < l.length, l[i] = d := by
  cases ha : atIx l d.tsn with
  | none => exact absurd rfl ((atIx_none _ _).1 ha d h)
  | some i =>
    obtain ⟨hi, ht⟩ := atIx_some ha
    exact ⟨i, rfl, by simp [ixOf, ha], hi, G.inj _ (S.mem _ (List.getElem_mem hi)) _ (S.mem _ h) ht⟩
theorem Sub.ix_get {gs : List (List Data)} (G : Grps gs) {l : List Data} (S : Sub gs l) {i : Nat} (hi : i < l.length) : ixOf l l[i] = i := by
  obtain ⟨j, _, h2, hj, h3⟩ := S.ix G (List.getElem_mem hi)
  rw [h2]
  exact nd_inj S.nd hj hi h3
theorem Sub.at {gs : List (List Data)} (G : Grps gs) {l : List Data} (S : Sub gs l) {d : Data} (h : d ∈ l) : dataAt l (ixOf l d) = d ∧ ixOf l d < l.length := by
  obtain ⟨i, _, h2, hi, h3⟩ := S.ix G h
  rw [h2, dataAt_eq hi]; exact ⟨h3, hi⟩
theorem drop_cons {g : List Data} {j : Nat} (h : j < g.length) : g.drop j = g[j] :: g.drop (j + 1) := List.drop_eq_getElem_cons h
/-- Parts that are left when a message is taken out. -/
theorem rest_of {gs : List (List Data)} (G : Grps gs) {l : List Data} (S : Sub gs l) {g : List Data} (hg : g ∈ gs) (hl : ∀ d ∈ g, d ∈ l) : ∀ (k : Nat), k ≤ l.length → restFrom (g.map (ixOf l)) k (l.drop k) = (l.drop k).filter fun d => !hasT g d.tsn := by
  intro k hk
  induction h : l.length - k generalizing k with
  | zero => rw [List.drop_eq_nil_of_le (by omega)]; rfl
  | succ m ih =>
    have hkl : k < l.length := by omega
    rw [restFrom_drop hkl, ih (k + 1) (by omega) (by omega), drop_cons hkl, List.filter_cons]
    have hm : k ∈ g.map (ixOf l) ↔ hasT g l[k].tsn = true := by
      rw [hasT_mem G hg (S.mem _ (List.getElem_mem hkl)), List.mem_map]
      constructor
      · rintro ⟨e, he, h2⟩
        obtain ⟨h3, h4⟩ := S.at G (hl e he)
        rw [h2, dataAt_eq hkl] at h3
        rw [h3]; exact he
      · intro h2; exact ⟨_, h2, S.ix_get G hkl⟩
    by_cases hq : hasT g l[k].tsn = true
    · rw [if_pos (hm.2 hq), if_neg (by simp [hq])]
    · rw [if_neg (fun h2 => hq (hm.1 h2)), if_pos (by simpa using hq)]
theorem text_of {gs : List (List Data)} (G : Grps gs) {l : List Data} (S : Sub gs l) : ∀ (g : List Data), (∀ d ∈ g, d ∈ l) → textOfIx l (g.map (ixOf l)) = g.flatMap Data.text
  | [], _ => rfl
  | d :: g, h => by
    have ih := text_of G S g fun x hx => h x (List.mem_cons_of_mem _ hx)
    unfold textOfIx at ih ⊢
    rw [List.map_cons, List.flatMap_cons, ih, (S.at G (h d (List.mem_cons_self ..))).1, List.flatMap_cons]
theorem msg_of {gs : List (List Data)} (G : Grps gs) {a : Asm} (S : Sub gs a.parts) {g : List Data} (hg : g ∈ gs) (hl : ∀ d ∈ g, d ∈ a.parts) : msgOf a (g.map (ixOf a.parts)) = msgG g := by
  have ht := text_of G S g hl
  unfold msgOf msgG
  rw [ht]
  cases g with
  | nil => exact absurd rfl (G.grp _ hg).ne
  | cons d g =>
    have := (S.at G (hl d (List.mem_cons_self ..))).1
    simp only [List.map_cons, List.headD_cons, hd, this]
/-- What an assembly has of the groups: those that were told, in order. -/
structure AInv (gs : List (List Data)) (n : Nat) (arr : List Data) (a : Asm) (ms : List Msg) (T : List (List Data)) : Prop where
  sub : ∀ g ∈ T, g ∈ gs
  in_ : ∀ g ∈ T, ∀ d ∈ g, d ∈ arr
  nd : T.Nodup
  ms : ms = T.map msgG
  parts : a.parts = arr.filter fun d => !(T.any fun g => hasT g d.tsn)
  nlen : a.next.length = n
  next : ∀ s : Int, 0 ≤ s → s < n → nextAt a s = (T.countP (ord s) : Nat)
  rk : ∀ (i : Nat) (s : Int) (h : i < (T.filter (ord s)).length), (hd ((T.filter (ord s))[i])).ssn = (i : Int)
/-- What is known of all parts. -/
structure Base (gs : List (List Data)) (n : Nat) : Prop where
  G : Grps gs
  n4 : 1 ≤ n ∧ n ≤ 4
  many : gs.length ≤ 60000
  str : ∀ d ∈ gs.flatten, 0 ≤ d.stream ∧ d.stream < n
section
variable {gs : List (List Data)} {n : Nat} {arr : List Data} {a : Asm} {ms : List Msg} {T : List (List Data)}
theorem AInv.S (B : Base gs n) (A : Sub gs arr) (I : AInv gs n arr a ms T) : Sub gs a.parts := by
  rw [I.parts]
  exact ⟨fun d hd => A.mem d (List.mem_filter.1 hd).1, A.nd.filter _⟩
theorem AInv.mem (B : Base gs n) (A : Sub gs arr) (I : AInv gs n arr a ms T) {d : Data} : d ∈ a.parts ↔ d ∈ arr ∧ ∀ g ∈ T, d ∉ g := by
  rw [I.parts, List.mem_filter]
  refine and_congr_right fun hd => ?_
  rw [Bool.not_eq_true', List.any_eq_false]
  exact forall_congr' fun g => forall_congr' fun hg => not_congr (hasT_mem B.G (I.sub g hg) (A.mem d hd))
theorem hd_mem {g : List Data} (h : g ≠ []) : hd g ∈ g := by cases g with
  | nil => exact absurd rfl h
  | cons d g => exact List.mem_cons_self ..
theorem like_hd {g : List Data} (h : Grp g) : ∀ (j : Nat) (hj : j < g.length), g[j].stream = (hd g).stream ∧ g[j].ssn = (hd g).ssn ∧ g[j].loose = (hd g).loose
  | 0, hj => by rw [hd_eq hj]; exact ⟨rfl, rfl, rfl⟩
  | j + 1, hj => by
    obtain ⟨h1, h2, h3⟩ := like_hd h j (by omega)
    have := h.like j hj
    simp only [likeB, Bool.and_eq_true, beq_iff_eq] at this
    exact ⟨this.1.1.trans h1, this.1.2.trans h2, this.2.trans h3⟩
theorem like_mem {g : List Data} (h : Grp g) {d : Data} (hd' : d ∈ g) : d.stream = (hd g).stream ∧ d.ssn = (hd g).ssn ∧ d.loose = (hd g).loose := by
  obtain ⟨j, hj, rfl⟩ := List.getElem_of_mem hd'
  exact like_hd h j hj
theorem AInv.fresh (B : Base gs n) (A : Sub gs arr) (I : AInv gs n arr a ms T) {g : List Data} (hg : g ∈ gs) (hl : ∀ d ∈ g, d ∈ a.parts) : g ∉ T := fun h => by
  have := hd_mem (B.G.grp g hg).ne
  exact ((I.mem B A).1 (hl _ this)).2 g h this
theorem AInv.count (B : Base gs n) (I : AInv gs n arr a ms T) : T.length ≤ gs.length := I.nd.length_le_of_subset I.sub
/-- Taking a group out. -/
theorem AInv.take (B : Base gs n) (A : Sub gs arr) (I : AInv gs n arr a ms T) {g : List Data} (hg : g ∈ gs) (hl : ∀ d ∈ g, d ∈ a.parts) (ho : (hd g).loose = true ∨ (hd g).ssn = nextAt a (hd g).stream) :
    AInv gs n arr (takeOut a (g.map (ixOf a.parts))) (ms ++ [msgOf a (g.map (ixOf a.parts))]) (T ++ [g]) := by
  have S := I.S B A
  have hfr := I.fresh B A hg hl
  have hmg := msg_of B.G S hg hl
  have hstr := B.str _ (Grps.mem hg (hd_mem (B.G.grp g hg).ne))
  have hnd : (T ++ [g]).Nodup := by
    rw [List.nodup_append]
    exact ⟨I.nd, by simp, fun x hx y hy => by simp only [List.mem_singleton] at hy; subst hy; exact fun e => hfr (e ▸ hx)⟩
  refine ⟨fun x hx => ?_, fun x hx d hdx => ?_, hnd, ?_, ?_, ?_, fun s hs hsn => ?_, fun i s h => ?_⟩
  · rcases List.mem_append.1 hx with hx | hx
    · exact I.sub x hx
    · simp only [List.mem_singleton] at hx; subst hx; exact hg
  · rcases List.mem_append.1 hx with hx | hx
    · exact I.in_ x hx d hdx
    · simp only [List.mem_singleton] at hx; subst hx; exact ((I.mem B A).1 (hl d hdx)).1
  · rw [hmg, I.ms, List.map_append]; rfl
  · show restFrom _ 0 a.parts = _
    have := rest_of B.G S hg hl 0 (Nat.zero_le _)
    rw [List.drop_zero] at this
    rw [this, I.parts, List.filter_filter]
    congr 1
    funext d
    rw [List.any_append]
    simp only [List.any_cons, List.any_nil, Bool.or_false, Bool.not_or]
    exact Bool.and_comm _ _
  · unfold takeOut; simp only; split <;> simp [I.nlen]
  · have hcnt : (T ++ [g]).countP (ord s) = T.countP (ord s) + if ord s g = true then 1 else 0 := by
      rw [List.countP_append, List.countP_cons, List.countP_nil]; simp
    have hI := I.next s hs hsn
    have hcl : T.countP (ord s) ≤ 60000 := Nat.le_trans (Nat.le_trans List.countP_le_length (I.count B)) B.many
    unfold takeOut
    rw [hmg]
    unfold nextAt at hI ⊢
    rw [hcnt]
    by_cases hlo : (hd g).loose = true
    · have : (msgG g).loose = true := hlo
      rw [if_pos this, hI]
      simp [ord, hlo]
    · have hlo' : ¬ ((msgG g).loose = true) := hlo
      rw [if_neg hlo']
      have hms : (msgG g).stream = (hd g).stream := rfl
      rw [hms]
      have hnl := I.nlen
      by_cases hst : (hd g).stream = s
      · have : ord s g = true := by simp [ord, hlo, hst]
        rw [if_pos this, hst]
        simp only [List.getD_eq_getElem?_getD]
        rw [List.getElem?_set_self (by omega)]
        simp only [List.getD_eq_getElem?_getD] at hI
        rw [Option.getD_some, hI]
        unfold l3; omega
      · have : ¬ (ord s g = true) := by simp [ord, hst]
        rw [if_neg this]
        simp only [List.getD_eq_getElem?_getD]
        rw [List.getElem?_set_ne (by omega)]
        simp only [List.getD_eq_getElem?_getD] at hI
        exact hI
  · have hfl : (T ++ [g]).filter (ord s) = T.filter (ord s) ++ if ord s g = true then [g] else [] := by
      rw [List.filter_append, List.filter_cons, List.filter_nil]
    rcases Nat.lt_or_ge i (T.filter (ord s)).length with hi | hi
    · have e : ((T ++ [g]).filter (ord s))[i] = (T.filter (ord s))[i] := by
        simp only [hfl]; exact List.getElem_append_left hi
      rw [e]; exact I.rk i s hi
    · by_cases ht : ord s g = true
      · have hlen : ((T ++ [g]).filter (ord s)).length = (T.filter (ord s)).length + 1 := by rw [hfl, if_pos ht]; simp
        have hie : i = (T.filter (ord s)).length := by omega
        have e : ((T ++ [g]).filter (ord s))[i] = g := by
          simp only [hfl, if_pos ht]
          rw [List.getElem_append_right (by omega)]; simp
        rw [e, hie]
        simp only [ord, Bool.and_eq_true, Bool.not_eq_true', beq_iff_eq] at ht
        rcases ho with ho | ho
        · rw [ho] at ht; cases ht.1
        · rw [ho, I.next _ hstr.1 hstr.2, ht.2, List.countP_eq_length_filter]
      · rw [hfl, if_neg ht, List.append_nil] at h; omega
theorem filter_len_le {p : Data → Bool} {l : List Data} : (l.filter p).length ≤ l.length := List.length_filter_le ..
theorem AInv.ok (B : Base gs n) (A : Sub gs arr) (I : AInv gs n arr a ms T) (hl : arr.length ≤ 13) : AsmOk a := by
  have S := I.S B A
  refine ⟨by rw [I.parts]; exact Nat.le_trans filter_len_le hl, fun d hd => B.G.rng d (S.mem d hd), fun d hd => by rw [I.nlen]; exact B.str d (S.mem d hd), fun x hx => ?_, by rw [I.nlen]; exact B.n4.2⟩
  obtain ⟨i, hi, rfl⟩ := List.getElem_of_mem hx
  have h1 := I.next i (by omega) (by rw [← I.nlen]; omega)
  have hcl : T.countP (ord i) ≤ 60000 := Nat.le_trans (Nat.le_trans List.countP_le_length (I.count B)) B.many
  unfold nextAt at h1
  simp only [Int.toNat_natCast, List.getD_eq_getElem?_getD, List.getElem?_eq_getElem hi, Option.getD_some] at h1
  rw [h1]
  simp only [serialB, decide_eq_true_eq]; omega
end
end Go.Cap
