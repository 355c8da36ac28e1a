import Derived.Test.YtcjbfoeiegecmaaA4
/- What a valid talk promises. -/
namespace Go.Cap
open Go Go.Proofs
set_option linter.unusedSimpArgs false
set_option linter.unusedVariables false

theorem talk_ok {t : Talk} (h : talkB t = true) : (1 ≤ t.size ∧ t.size ≤ 20) ∧ t.says.length ≤ 4 ∧ (∀ s ∈ t.says, 1 ≤ s.text.length ∧ s.text.length ≤ 60 ∧ 0 ≤ s.stream ∧ s.stream < (if s.byB then t.b.streams else t.a.streams)) ∧ (0 ≤ t.a.tsn ∧ t.a.tsn < 65536) ∧ (0 ≤ t.b.tsn ∧ t.b.tsn < 65536) ∧
    (1 ≤ t.a.streams ∧ t.a.streams ≤ 4) ∧ (1 ≤ t.b.streams ∧ t.b.streams ≤ 4) := by
  simp only [talkB, talkHead, inB, initB, serialB, Bool.and_eq_true, decide_eq_true_eq] at h
  obtain ⟨⟨⟨⟨⟨⟨h1, h2⟩, ⟨⟨⟨_, _, h9, h10⟩, _⟩, h3⟩⟩, ⟨⟨⟨_, _, h11, h12⟩, _⟩, h4⟩⟩, h5⟩, h6⟩, h7⟩ := h
  refine ⟨h5, by omega, ?_, h3, h4, ⟨h9, h10⟩, ⟨h11, h12⟩⟩
  have key : ∀ (l : List Say) (a b : Int), talkLoop t l a b = true → ∀ s ∈ l, sayOk t s = true := by
    intro l
    induction l with
    | nil => intro a b _ s hs; cases hs
    | cons x l ih =>
      intro a b h s hs
      simp only [talkLoop, Bool.and_eq_true] at h
      rcases List.mem_cons.1 hs with rfl | hs
      · exact h.1
      · have := h.2
        split at this
        · exact ih _ _ this s hs
        · exact ih _ _ this s hs
  intro s hs
  have := key _ _ _ h7 s hs
  simp only [sayOk, inB, Bool.and_eq_true, decide_eq_true_eq] at this
  obtain ⟨⟨k1, k2⟩, k3⟩ := this
  cases hb : s.byB
  · rw [hb] at k3; simp at k3; simp; omega
  · rw [hb] at k3; simp at k3; simp; omega
end Go.Cap
