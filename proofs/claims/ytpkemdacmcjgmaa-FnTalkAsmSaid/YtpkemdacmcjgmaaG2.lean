import Derived.Test.YtpkemdacmcjgmaaG1
/- What an assembly does with parts that it has not seen: it takes them, and tells the groups that are whole. -/
namespace Go.Cap
open Go Go.Proofs
set_option linter.unusedSimpArgs false
set_option linter.unusedVariables false

def asmStep (x : Asm × List Msg) (d : Data) : Asm × List Msg := if (asmAdd x.1 d).2.2 = 0 then ((asmAdd x.1 d).1, x.2 ++ (asmAdd x.1 d).2.1) else x
def asmNew (n : Nat) : Asm := ⟨List.replicate n 0, []⟩
def asmRun (n : Int) (l : List Data) : List Msg := if 1 ≤ n ∧ n ≤ 4 then (l.foldl asmStep (asmNew n.toNat, [])).2 else []
theorem settle_app : ∀ (k : Nat) (a : Asm) (ms ms0 : List Msg), settle k a (ms0 ++ ms) = ((settle k a ms).1, ms0 ++ (settle k a ms).2)
  | 0, _, _, _ => rfl
  | k + 1, a, ms, ms0 => by
    rw [settle, settle]
    cases due a with
    | none => rfl
    | some p => simp only; rw [List.append_assoc]; exact settle_app k _ _ _
theorem partsLoop_of {n : Nat} {p : List Data} : ∀ (l : List Data) (i : Nat), (∀ j (hj : j < l.length), partOk n (p.take (i + j)) l[j] = true) → partsLoop n p i l = true
  | [], _, _ => rfl
  | d :: l, i, h => by
    simp only [partsLoop, Bool.and_eq_true]
    refine ⟨h 0 (by simp), partsLoop_of l (i + 1) fun j hj => ?_⟩
    have := h (j + 1) (by simpa using hj)
    simpa [Nat.add_assoc, Nat.add_comm 1 j] using this
section
variable {gs : List (List Data)} {n : Nat} {arr : List Data} {a : Asm} {ms : List Msg} {T : List (List Data)} {d : Data}
theorem AInv.valid (B : Base gs n) (A : Sub gs arr) (I : AInv gs n arr a ms T) (hl : arr.length ≤ 12) (hd : ∀ d ∈ arr, dataB d = true) : asmB a = true := by
  have S := I.S B A
  have ok := I.ok B A (by omega)
  have hpl : a.parts.length ≤ 12 := by rw [I.parts]; exact Nat.le_trans filter_len_le hl
  have hall : a.next.all serialB = true := List.all_eq_true.2 ok.next
  have hps : partsLoop a.next.length a.parts 0 a.parts = true := by
    refine partsLoop_of _ 0 fun j hj => ?_
    have hm := List.getElem_mem hj
    rw [Nat.zero_add]
    unfold partOk
    have h1 : dataB a.parts[j] = true := hd _ ((I.mem B A).1 hm).1
    have h2 := (ok.stream _ hm).2
    have h3 : atIx (a.parts.take j) a.parts[j].tsn = none := by
      rw [atIx_none]
      intro d hd' e
      have hdm := List.mem_of_mem_take hd'
      have := B.G.inj _ (S.mem _ hdm) _ (S.mem _ hm) e
      obtain ⟨k, hk, e2⟩ := List.getElem_of_mem hd'
      rw [List.length_take] at hk
      rw [List.getElem_take] at e2
      have := nd_inj S.nd (i := k) (j := j) (by omega) hj (by rw [e2, this])
      omega
    rw [h1, h3, decide_eq_true h2]; rfl
  have hn : 1 ≤ a.next.length ∧ a.next.length ≤ 4 := by rw [I.nlen]; exact B.n4
  unfold asmB
  rw [hall, hps, decide_eq_true hpl, decide_eq_true hn]; rfl
theorem AInv.push (B : Base gs n) (A : Sub gs (arr ++ [d])) (I : AInv gs n arr a ms T) : AInv gs n (arr ++ [d]) ⟨a.next, a.parts ++ [d]⟩ ms T := by
  have hnd := List.nodup_append.1 A.nd
  have hfresh : ∀ g ∈ T, d ∉ g := fun g hg h => absurd rfl (hnd.2.2 d (I.in_ g hg d h) d (by simp))
  refine ⟨I.sub, fun g hg x hx => List.mem_append_left _ (I.in_ g hg x hx), I.nd, I.ms, ?_, I.nlen, I.next, I.rk⟩
  show a.parts ++ [d] = _
  rw [List.filter_append, ← I.parts]
  congr 1
  have : (T.any fun g => hasT g d.tsn) = false := by
    rw [List.any_eq_false]
    intro g hg
    rw [hasT_mem B.G (I.sub g hg) (A.mem d (by simp))]
    exact hfresh g hg
  simp [this]
theorem Sub.left {more : List Data} (A : Sub gs (arr ++ more)) : Sub gs arr := ⟨fun x hx => A.mem x (List.mem_append_left _ hx), (List.nodup_append.1 A.nd).1⟩
theorem AInv.add (B : Base gs n) (A : Sub gs (arr ++ [d])) (I : AInv gs n arr a ms T) (hl : arr.length < 12) (hd : ∀ x ∈ arr ++ [d], dataB x = true) :
    ∃ T', AInv gs n (arr ++ [d]) (asmStep (a, ms) d).1 (asmStep (a, ms) d).2 (T ++ T') ∧ due (asmStep (a, ms) d).1 = none := by
  have A0 := A.left
  have hv := I.valid B A0 (by omega) fun x hx => hd x (List.mem_append_left _ hx)
  have hdd := hd d (by simp)
  have hst := B.str d (A.mem d (by simp))
  have hat : atIx a.parts d.tsn = none := by
    rw [atIx_none]
    intro x hx e
    have hx' := ((I.mem B A0).1 hx).1
    have := B.G.inj _ (A0.mem x hx') _ (A.mem d (by simp)) e
    subst this
    exact absurd rfl ((List.nodup_append.1 A.nd).2.2 x hx' x (by simp))
  have hpl : a.parts.length < 12 := by rw [I.parts]; exact Nat.lt_of_le_of_lt filter_len_le hl
  have hadd : asmAdd a d = ((Cap.settle (a.parts.length + 2) ⟨a.next, a.parts ++ [d]⟩ []).1, (Cap.settle (a.parts.length + 2) ⟨a.next, a.parts ++ [d]⟩ []).2, 0) := by
    unfold asmAdd
    rw [if_neg (by simp [hv, hdd, I.nlen]; omega), hat, if_neg (by simp), if_neg (by omega)]
  obtain ⟨T', I', h'⟩ := AInv.settle B A (by simp; omega) (a.parts.length + 2) _ _ _ (I.push B A) (by simp)
  have e := settle_app (a.parts.length + 2) ⟨a.next, a.parts ++ [d]⟩ [] ms
  rw [List.append_nil] at e
  rw [e] at I' h'
  have hs : asmStep (a, ms) d = ((Cap.settle (a.parts.length + 2) ⟨a.next, a.parts ++ [d]⟩ []).1, ms ++ (Cap.settle (a.parts.length + 2) ⟨a.next, a.parts ++ [d]⟩ []).2) := by
    unfold asmStep; simp only [hadd, if_true]
  rw [hs]
  exact ⟨T', I', h'⟩
theorem AInv.run (B : Base gs n) : ∀ (more arr : List Data) (a : Asm) (ms : List Msg) (T : List (List Data)), Sub gs (arr ++ more) → AInv gs n arr a ms T → due a = none → (arr ++ more).length ≤ 12 → (∀ x ∈ arr ++ more, dataB x = true) →
    ∃ T', AInv gs n (arr ++ more) (more.foldl asmStep (a, ms)).1 (more.foldl asmStep (a, ms)).2 (T ++ T') ∧ due (more.foldl asmStep (a, ms)).1 = none
  | [], arr, a, ms, T, A, I, h, hl, hd => ⟨[], by simpa using I, h⟩
  | d :: more, arr, a, ms, T, A, I, h, hl, hd => by
    have e : arr ++ d :: more = (arr ++ [d]) ++ more := by simp
    rw [e] at A hl hd ⊢
    obtain ⟨T1, I1, h1⟩ := I.add B A.left (by simp at hl; omega) fun x hx => hd x (List.mem_append_left _ hx)
    obtain ⟨T2, I2, h2⟩ := AInv.run B more (arr ++ [d]) _ _ _ A I1 h1 hl hd
    rw [List.append_assoc T T1 T2] at I2
    exact ⟨T1 ++ T2, I2, h2⟩
theorem AInv.start (gs : List (List Data)) (n : Nat) : AInv gs n [] (asmNew n) [] [] := by
  refine ⟨fun g h => (List.not_mem_nil h).elim, fun g h => (List.not_mem_nil h).elim, List.nodup_nil, rfl, rfl, by simp [asmNew], fun s h1 h2 => ?_, fun i s h => by simp at h⟩
  simp only [nextAt, asmNew, List.getD_eq_getElem?_getD, List.getElem?_replicate]
  split <;> rfl
theorem rank_lt {p : List Data → Bool} {gs : List (List Data)} {j i : Nat} (hj : j < i) (hi : i ≤ gs.length) (h : p (gs[j]'(by omega)) = true) : (gs.take j).countP p + 1 ≤ (gs.take i).countP p := by
  have h1 : (gs.take (j + 1)).countP p = (gs.take j).countP p + 1 := by
    rw [take_get (by omega), List.countP_append, List.countP_cons, List.countP_nil, if_pos h]
  have h2 : (gs.take (j + 1)).Sublist (gs.take i) := by
    have : gs.take (j + 1) = (gs.take i).take (j + 1) := by rw [List.take_take]; congr 1; omega
    rw [this]; exact List.take_sublist ..
  have := h2.countP_le (p := p)
  omega
theorem Grps.nodup (G : Grps gs) : gs.Nodup := by
  refine List.pairwise_iff_getElem.2 fun i j hi hj hij e => ?_
  have hm := hd_mem (G.grp _ (List.getElem_mem hi)).ne
  have := flat_nd G.nd hi hj hm (e ▸ hm)
  omega
theorem Grps.rank_inj (G : Grps gs) {s : Int} {i j : Nat} (hi : i < gs.length) (hj : j < gs.length) (h1 : ord s gs[i] = true) (h2 : ord s gs[j] = true) (h : (gs.take i).countP (ord s) = (gs.take j).countP (ord s)) : i = j := by
  rcases Nat.lt_trichotomy i j with k | k | k
  · have := rank_lt k (by omega) h1; omega
  · exact k
  · have := rank_lt k (by omega) h2; omega
/-- A group that is whole has been told, if all groups ahead of it are whole too. -/
theorem AInv.whole (B : Base gs n) (A : Sub gs arr) (I : AInv gs n arr a ms T) (hdue : due a = none) : ∀ (i : Nat) (hi : i < gs.length), (∀ j (hj : j ≤ i), ∀ d ∈ gs[j]'(by omega), d ∈ arr) → gs[i] ∈ T := by
  intro i
  induction i using Nat.strongRecOn with
  | _ i ih =>
    intro hi hin
    by_cases hT : gs[i] ∈ T
    · exact hT
    exfalso
    have hg := List.getElem_mem hi
    have hp := B.G.grp _ hg
    have hl : ∀ d ∈ gs[i], d ∈ a.parts := fun d hd => (I.mem B A).2 ⟨hin i (Nat.le_refl _) d hd, fun g hgT hdg => hT (B.G.same hg (I.sub g hgT) hd hdg ▸ hgT)⟩
    refine due_of B A I hg hl ?_ hdue
    by_cases hlo : (hd gs[i]).loose = true
    · exact .inl hlo
    · right
      have hlo' : (hd gs[i]).loose = false := by simpa using hlo
      have hstr := B.str _ (Grps.mem hg (hd_mem hp.ne))
      rw [B.G.rank i hi hlo', I.next _ hstr.1 hstr.2]
      generalize hs : (hd gs[i]).stream = s
      have ho : ord s gs[i] = true := by simp [ord, hlo', hs]
      congr 1
      apply Nat.le_antisymm
      · rw [List.countP_eq_length_filter, List.countP_eq_length_filter]
        refine List.Nodup.length_le_of_subset ?_ ?_
        · exact (B.G.nodup.sublist (List.take_sublist ..)).filter _
        · intro g hgf
          rw [List.mem_filter] at hgf ⊢
          refine ⟨?_, hgf.2⟩
          obtain ⟨j, hj, rfl⟩ := List.mem_take_iff_getElem.1 hgf.1
          exact ih j (by omega) (by omega) fun k hk => hin k (by omega)
      · rcases Nat.lt_or_ge ((gs.take i).countP (ord s)) (T.countP (ord s)) with hlt | hge
        · exfalso
          rw [List.countP_eq_length_filter (p := ord s) (l := T)] at hlt
          have hrk := I.rk _ s hlt
          have hmem := List.mem_filter.1 (List.getElem_mem hlt)
          generalize (T.filter (ord s))[(gs.take i).countP (ord s)] = gx at hrk hmem
          obtain ⟨j, hj, rfl⟩ := List.getElem_of_mem (I.sub _ hmem.1)
          have ho2 := hmem.2
          simp only [ord, Bool.and_eq_true, Bool.not_eq_true', beq_iff_eq] at ho2
          rw [B.G.rank j hj ho2.1, ho2.2] at hrk
          have hij := B.G.rank_inj hi hj ho hmem.2 (by omega)
          subst hij
          exact hT hmem.1
        · exact hge
end
end Go.Cap
