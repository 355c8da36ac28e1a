import Derived.Test.YtpkemdacmcjgmaaP3
/- Contracts: marks that a law leaves in what the program returned. -/
namespace Go.Cap
open Go Go.Proofs
set_option maxRecDepth 100000
set_option linter.unusedSimpArgs false
set_option linter.unusedVariables false
attribute [local irreducible] Call Run Spec Le

/-- The digits of a number, ahead of a text. -/
def digits (n : Nat) (acc : List UInt8) : List UInt8 := if h : n = 0 then acc else digits (n / 10) (UInt8.ofNat (48 + n % 10) :: acc)
termination_by n
decreasing_by omega
theorem digits_zero (acc : List UInt8) : digits 0 acc = acc := by rw [digits]; rfl
theorem digits_pos {n : Nat} (h : n ≠ 0) (acc : List UInt8) : digits n acc = digits (n / 10) (UInt8.ofNat (48 + n % 10) :: acc) := by rw [digits, dif_neg h]
theorem digits_len (n : Nat) : ∀ acc, (digits n acc).length ≤ n + acc.length := by
  induction n using Nat.strongRecOn with
  | _ n ih =>
    intro acc
    by_cases h : n = 0
    · subst h; rw [digits_zero]; omega
    · rw [digits_pos h]
      refine Nat.le_trans (ih (n / 10) (by omega) _) ?_
      rw [List.length_cons]; omega
def markT (n : Int) : List UInt8 := if n ≤ 0 then [109, 48] else 109 :: digits n.toNat []
theorem tmod_nat (a b : Nat) : ((a : Int).tmod (b : Int)) = ((a % b : Nat) : Int) := rfl
theorem tdiv_nat (a b : Nat) : ((a : Int).tdiv (b : Int)) = ((a / b : Nat) : Int) := rfl
theorem s_markText (n : Int) (hn : n ≤ 1000000000) : Spec Try.prog 67 0 [] [.i n] (fun r _ _ _ => r = .st (markT n)) := by
  refine mk67 rfl fun c hP hm => ?_
  unfold pc67 markT
  simp only [go_sem, ↓reduceIte]
  refine ⟨fun h => ?_, fun h => ?_⟩
  · rw [if_pos h]
  · rw [if_neg (by omega)]
    obtain ⟨k, rfl⟩ := Int.eq_ofNat_of_zero_le (a := n) (by omega)
    refine run_exit 0 (fun t0 => t0 = ⟨[(3, .st (digits k []))], [], 0, []⟩) ?_ (fun t0 h => by rw [h]; simp only [go_sem, ↓reduceIte]; have := digits_len k []; simp only [List.length_nil] at this; exact ⟨by omega, by rw [Int.toNat_natCast]⟩)
    refine lp_wpc (α := Nat × List UInt8) (fun y => ⟨[(0, .i y.1), (3, .st y.2)], [], 0, []⟩) (fun y => y.2.length + y.1 ≤ k ∧ digits y.1 y.2 = digits k []) (fun y => y.1) (k, []) ⟨by simp, rfl⟩ (le_eq (by simp)) ?_
    rintro ⟨j, acc⟩ ⟨h1, h2⟩
    unfold pc67l0
    simp only at h1 h2
    simp only [go_sem, ↓reduceIte]
    have e10 : (10 : Int) = ((10 : Nat) : Int) := rfl
    rw [e10, tmod_nat, tdiv_nat]
    rw [wrap64 (x := 48 + ((j % 10 : Nat) : Int)) (by omega) (by omega), wrap64 (x := ((j / 10 : Nat) : Int)) (by omega) (by omega), wrapU8 (by omega) (by omega)]
    refine ⟨fun hlt => ⟨?_, by omega, (j / 10, UInt8.ofNat (48 + j % 10) :: acc), ⟨?_, ?_⟩, ?_, ?_⟩, fun hge => ?_⟩
    · rintro r rfl; exact ⟨_, rfl⟩
    · simp only [List.length_cons]; omega
    · rw [← h2, digits_pos (n := j) (by omega)]
    · simp only; omega
    · have eb : byteOf [.n .u8 (48 + ((j % 10 : Nat) : Int))] = UInt8.ofNat (48 + j % 10) := by
        show UInt8.ofNat (48 + ((j % 10 : Nat) : Int)).toNat = _
        congr 1
      rw [eb]
      exact le_ev [] (by simp only [hm, go_sem, ↓reduceIte])
    · have : j = 0 := by omega
      subst this
      rw [digits_zero] at h2
      rw [← h2]
      exact ⟨_, rfl, le_ev [] (by simp only [hm, go_sem, ↓reduceIte])⟩
/-- Marked rows. -/
def div3 (n : Int) : Bool := n.tmod 3 == 0
def markData (n : Int) : Data := ⟨n, n + 1, n + 2, div3 (n + 3), div3 (n + 4), div3 (n + 5), markT (n + 6)⟩
def marks {α : Type} (f : Int → α) (w : Int) (k : Nat) (n : Int) : List α := (List.range k).map fun (i : Nat) => f (n + w * (i : Int))
theorem marks_len {α : Type} (f : Int → α) (w : Int) (k : Nat) (n : Int) : (marks f w k n).length = k := by simp [marks]
theorem marks_succ {α : Type} (f : Int → α) (w : Int) (k : Nat) (n : Int) : marks f w (k + 1) n = marks f w k n ++ [f (n + w * k)] := by simp [marks, List.range_succ]
theorem marks_get {α : Type} (f : Int → α) (w : Int) {k i : Nat} (n : Int) (h : i < k) : (marks f w k n)[i]? = some (f (n + w * i)) := by simp [marks, h]
theorem s_markDataS (l : List Data) (n : Int) (hn : 0 ≤ n ∧ n ≤ 1000) (hl : l.length ≤ 4000000) : Spec Try.prog 42 1 [(0, .row 7 (l.map Data.row))] [.sl 0 0 l.length, .i n] (Named fun r B => r = .i (n + 7 * l.length) ∧ B = .row 7 ((marks markData 7 l.length n).map Data.row)) := by
  refine Spec.named ?_
  refine mk42 rfl fun c hP hm => ?_
  unfold pc42
  simp only [go_sem, ↓reduceIte]
  refine run_exit 0 (fun t0 => t0 = ⟨[(1, .i (n + 7 * l.length))], [(0, .row 7 ((marks markData 7 l.length n).map Data.row))], 1, []⟩) ?_ (fun t0 h => by rw [h]; simp only [go_sem, ↓reduceIte]; exact ⟨_, rfl, rfl, rfl⟩)
  refine lp_wpc (α := Nat) (fun i => ⟨[(0, .sl 0 0 l.length), (1, .i (n + 7 * i)), (5, .i i)], [(0, .row 7 ((marks markData 7 i n).map Data.row ++ (l.drop i).map Data.row))], 1, []⟩) (fun i => i ≤ l.length) (fun i => l.length - i) 0 (Nat.zero_le _) (le_eq (by simp [marks])) ?_
  intro i hi
  unfold pc42l0
  rcases Nat.lt_or_ge i l.length with hil | hil
  · have hM : ((marks markData 7 i n).map Data.row).length = i := by rw [List.length_map, marks_len]
    have hA := congrArg (List.map Data.row) (marks_succ markData 7 i n)
    rw [List.map_append, List.map_cons, List.map_nil] at hA
    rw [mid_drop hil]
    generalize (marks markData 7 i n).map Data.row = A at hM hA
    have hBl : ((l.drop (i + 1)).map Data.row).length = l.length - (i + 1) := by simp
    generalize hB : (l.drop (i + 1)).map Data.row = B at hBl
    simp only [Int.toNat_natCast, mid_get hM, mid_set hM, mid_len, Data.row, go_sem, ↓reduceIte]
    simp (disch := omega) only [wrap64]
    intro _
    refine ⟨fun hlt => ?_, fun hge => absurd hge (by omega)⟩
    repeat' refine And.intro ?_ ?_
    all_goals first
      | omega
      | (refine call_pure (hP ▸ s_markText _ (by omega)) rfl rfl ?_
         simp only [Int.toNat_natCast, mid_get hM, mid_set hM, mid_len, go_sem, ↓reduceIte]
         simp (disch := omega) only [wrap64]
         refine ⟨⟨by omega, by omega⟩, by omega, i + 1, hil, by omega, le_ev [] ?_⟩
         rw [hA, hB]
         simp only [hm, markData, div3, Data.row, List.append_assoc, Int.natCast_add, Int.mul_add, Int.add_assoc, Int.reduceAdd, go_sem, ↓reduceIte]
         rfl)
  · have : i = l.length := by omega
    subst this
    simp only [go_sem, ↓reduceIte]
    exact fun _ => ⟨_, rfl, le_ev [] (by simp only [hm, List.drop_length, go_sem, ↓reduceIte])⟩
theorem s_eqData (x : Data) : Spec Try.prog 71 0 [] [x.av, x.av] (fun r _ _ _ => r = .bo true) := by
  refine mk71 rfl fun c hP hm => ?_
  unfold pc71 Data.av
  simp only [go_sem, ↓reduceIte]
theorem s_eqDataS (l : List Data) : Spec Try.prog 41 0 [] [.r (.ro none (l.map Data.row)), .r (.ro none (l.map Data.row))] (fun r _ _ _ => r = .bo true) := by
  refine mk41 rfl fun c hP hm => ?_
  unfold pc41
  simp only [go_sem, ↓reduceIte]
  intro hlen _
  refine lp_wpc (α := Nat) (fun i => ⟨[(0, .r (.ro none (l.map Data.row))), (1, .r (.ro none (l.map Data.row))), (5, .i i)], [], 0, []⟩) (fun i => i ≤ l.length) (fun i => l.length - i) 0 (Nat.zero_le _) (Le.refl _) ?_
  intro i hi
  unfold pc41l0
  simp only [go_sem, ↓reduceIte]
  intro _
  intro hlt
  have hil : i < l.length := by omega
  simp only [Int.toNat_natCast, getD_map hil, Data.row, go_sem, ↓reduceIte]
  refine ⟨⟨by omega, by omega⟩, ⟨by omega, by omega⟩, ?_⟩
  refine call_pure (hP ▸ s_eqData l[i]) rfl rfl ?_
  simp only [go_sem, ↓reduceIte]
  rw [wrap64 (by omega) (by omega)]
  exact ⟨i + 1, hil, by omega, Le.refl _⟩
end Go.Cap
