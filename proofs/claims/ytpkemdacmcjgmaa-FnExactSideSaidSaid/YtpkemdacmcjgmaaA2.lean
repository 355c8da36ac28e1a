import Derived.Test.YtpkemdacmcjgmaaA1
import Derived.Test.YtpkemdacmcjgmaaEngC
/- Contracts: sizes and copies of a talk. -/
namespace Go.Cap
open Go Go.Proofs
set_option maxRecDepth 100000
set_option linter.unusedSimpArgs false
set_option linter.unusedVariables false
attribute [local irreducible] Call Run Spec Le

/-- What is left of a bound. -/
def szText (n left : Int) : Int := if left - n < 0 then -1 else left - n
def szTexts : List Int → Int → Int
  | [], left => left
  | n :: l, left => if szText n left < 0 then -1 else szTexts l (szText n left)
theorem szTexts_drop {l : List Int} {i : Nat} (h : i < l.length) (left : Int) : szTexts (l.drop i) left = if szText l[i] left < 0 then -1 else szTexts (l.drop (i + 1)) (szText l[i] left) := by
  rw [List.drop_eq_getElem_cons h]; rfl
theorem szText_le (n left : Int) (hn : 0 ≤ n) : szText n left ≤ left ∨ szText n left = -1 := by
  unfold szText; split
  · exact .inr rfl
  · exact .inl (by omega)

theorem szTexts_spec : ∀ (l : List Int) (left : Int), (∀ n ∈ l, 0 ≤ n) → 0 ≤ szTexts l left → left - szTexts l left = l.sum
  | [], left, _, _ => by simp [szTexts]
  | n :: l, left, hn, h => by
    simp only [szTexts] at h ⊢
    split at h
    · omega
    · rename_i h1
      rw [if_neg h1]
      have := szTexts_spec l (szText n left) (fun n hm => hn n (List.mem_cons_of_mem _ hm)) h
      have h2 : szText n left = left - n := by
        unfold szText at h1 ⊢; split
        · rename_i h3; rw [if_pos h3] at h1; omega
        · rfl
      rw [h2] at this ⊢
      simp only [List.sum_cons]; omega
theorem sum_mem : ∀ (l : List Int), (∀ n ∈ l, 0 ≤ n) → ∀ n ∈ l, n ≤ l.sum
  | [], _, n, h => by cases h
  | x :: l, hl, n, h => by
    have h0 := hl x (by simp)
    have hp : ∀ (l : List Int), (∀ n ∈ l, 0 ≤ n) → 0 ≤ l.sum := by
      intro l
      induction l with
      | nil => intro _; simp
      | cons y l ih => intro h; have := h y (by simp); have := ih (fun n hn => h n (List.mem_cons_of_mem _ hn)); simp only [List.sum_cons]; omega
    have h1 := hp l (fun n hn => hl n (List.mem_cons_of_mem _ hn))
    rcases List.mem_cons.1 h with rfl | h
    · simp only [List.sum_cons]; omega
    · have := sum_mem l (fun n hn => hl n (List.mem_cons_of_mem _ hn)) n h
      simp only [List.sum_cons]; omega
end Go.Cap
