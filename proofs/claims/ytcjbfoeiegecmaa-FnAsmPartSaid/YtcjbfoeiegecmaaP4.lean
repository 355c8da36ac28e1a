import Derived.Test.YtcjbfoeiegecmaaP3
/- Plain facts on the parts of a talk. -/
namespace Go.Cap
open Go Go.Proofs
set_option linter.unusedSimpArgs false
set_option linter.unusedVariables false

/-- The number of parts, as the loop of TalkValid counts them. -/
theorem manyOf_eq {t : Talk} {s : Say} (hz : 1 ≤ t.size) : manyOf t s = (manyN s.text.length t.size.toNat : Int) := by
  unfold manyOf manyN
  have e : t.size = (t.size.toNat : Int) := by omega
  rw [e]
  simp only [Int.toNat_natCast]
  rw [Int.natCast_ediv]
  congr 1
  omega
theorem talkLoop_count {t : Talk} (hz : 1 ≤ t.size) (byB : Bool) (f : Int) : ∀ (l : List Say) (a b : Int) (out : List Data), talkLoop t l a b = true → (out.length : Int) = (if byB then b else a) → (partsAcc t.size.toNat f byB l out).length ≤ 12
  | [], a, b, out, h, e => by
    simp only [talkLoop, Bool.and_eq_true, decide_eq_true_eq] at h
    simp only [partsAcc]
    cases byB <;> simp at e <;> omega
  | s :: l, a, b, out, h, e => by
    simp only [talkLoop, Bool.and_eq_true] at h
    have hm := manyOf_eq (s := s) hz
    simp only [partsAcc]
    cases hs : s.byB <;> rw [hs] at h <;> simp only [if_true, if_false, Bool.false_eq_true] at h <;> refine talkLoop_count hz byB f l _ _ _ h.2 ?_ <;> cases byB <;> simp only [if_true, if_false, Bool.false_eq_true, reduceCtorEq, List.length_append, nextParts_len] at e ⊢ <;> omega
theorem talkParts_12 (t : Talk) (byB : Bool) (hv : talkB t = true) : (talkParts t byB).length ≤ 12 := by
  obtain ⟨hsz, _⟩ := talk_ok hv
  unfold talkParts
  rw [if_pos hv]
  simp only [talkB, Bool.and_eq_true] at hv
  exact talkLoop_count hsz.1 byB _ _ 0 0 [] hv.2 (by cases byB <;> rfl)
end Go.Cap
