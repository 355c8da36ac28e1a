import Derived.Test.YtcjbfoeiegecmaaA2
import Derived.Test.YtcjbfoeiegecmaaEngC
/- Contracts: comparing talks; TalkValid, twice. -/
namespace Go.Cap
open Go Go.Proofs
set_option maxRecDepth 100000
set_option linter.unusedSimpArgs false
set_option linter.unusedVariables false
attribute [local irreducible] Call Run Spec Le

theorem s_l41Many (x : List UInt8) (n : Int) (h : x.length ≤ 60 ∧ 1 ≤ x.length ∧ 1 ≤ n ∧ n ≤ 20) : Spec Try.prog 61 0 [] [.st x, .i n] (fun r _ _ _ => r = .i ((x.length + n - 1) / n)) := by
  refine mk61 rfl fun c hP hm => ?_
  unfold pc61
  simp only [go_sem, ↓reduceIte]
  have e : (IntKind.i64.wrap (IntKind.i64.wrap (↑x.length + n) - 1)) = x.length + n - 1 := by
    rw [wrap64 (x := x.length + n) (by omega) (by omega), wrap64 (by omega) (by omega)]
  rw [e]
  have h1 : ((x.length : Int) + n - 1).tdiv n = ((x.length : Int) + n - 1) / n := Int.tdiv_eq_ediv_of_nonneg (by omega)
  have h2 : 0 ≤ ((x.length : Int) + n - 1) / n := Int.ediv_nonneg (by omega) (by omega)
  have h3 : ((x.length : Int) + n - 1) / n ≤ (x.length : Int) + n - 1 := Int.ediv_le_self _ (by omega)
  rw [h1, wrap64 (by omega) (by omega)]
  exact ⟨by omega, rfl⟩

def sayOk (t : Talk) (s : Say) : Bool := inB s.text.length 1 60 && (if s.byB then inB s.stream 0 (t.b.streams - 1) else inB s.stream 0 (t.a.streams - 1))
def talkHead (t : Talk) : Bool := inB t.fr 1 65535 && inB t.to 1 65535 && !(t.fr == t.to) && initB t.a && initB t.b && inB t.size 1 20
def manyOf (t : Talk) (s : Say) : Int := (s.text.length + t.size - 1) / t.size
def talkLoop (t : Talk) : List Say → Int → Int → Bool
  | [], a, b => decide (a ≤ 12) && decide (b ≤ 12)
  | s :: l, a, b => sayOk t s && (if s.byB then talkLoop t l a (b + manyOf t s) else talkLoop t l (a + manyOf t s) b)
def talkB (t : Talk) : Bool := talkHead t && decide (t.says.length ≤ 4) && talkLoop t t.says 0 0
theorem talkLoop_drop {t : Talk} {l : List Say} {i : Nat} (h : i < l.length) (a b : Int) : talkLoop t (l.drop i) a b =
    (sayOk t l[i] && (if l[i].byB then talkLoop t (l.drop (i + 1)) a (b + manyOf t l[i]) else talkLoop t (l.drop (i + 1)) (a + manyOf t l[i]) b)) := by
  rw [List.drop_eq_getElem_cons h]; rfl
theorem many_le {t : Talk} {s : Say} (h1 : 1 ≤ t.size ∧ t.size ≤ 20) (h2 : s.text.length ≤ 60) : 0 ≤ manyOf t s ∧ manyOf t s ≤ 80 := by
  unfold manyOf
  have h2 : 0 ≤ ((s.text.length : Int) + t.size - 1) / t.size := Int.ediv_nonneg (by omega) (by omega)
  have h3 : ((s.text.length : Int) + t.size - 1) / t.size ≤ (s.text.length : Int) + t.size - 1 := Int.ediv_le_self _ (by omega)
  omega

theorem s_specTalkValid (t : Talk) (hl : t.says.length ≤ 1048576) (hx : ∀ s ∈ t.says, s.text.length ≤ 1048576) : Spec Try.prog 53 0 [] [t.ro] (fun r _ _ _ => r = .bo (talkB t)) := by
  refine mk53 rfl fun c hP hm => ?_
  unfold pc53 Talk.ro Talk.av
  simp only [go_sem, ↓reduceIte]
  repeat' first | refine And.intro ?_ ?_ | intro _ | (refine c_l6In hP ?_; simp only [go_sem, ↓reduceIte]) | (refine call_pure (hP ▸ s_l12Init t.a) rfl rfl ?_; simp only [go_sem, ↓reduceIte]) | (refine call_pure (hP ▸ s_l12Init t.b) rfl rfl ?_; simp only [go_sem, ↓reduceIte])
  all_goals first | (simp [talkB, talkHead, *]; done) | skip
  rename_i h1 h2 h3 h4 h5 h6
  have hsz : 1 ≤ t.size ∧ t.size ≤ 20 := by simpa [inB] using h6
  have hhead : talkHead t = true := by simp [talkHead, *]
  refine lp_wpc (α := Nat × Int × Int) (fun y => ⟨[(1, .ptr 0 0 0), (3, .i y.2.1), (4, .i y.2.2), (5, .i y.1)],
      [(0, .var [.i t.fr, .i t.to, .i t.a.tag, .i t.a.window, .i t.a.streams, .i t.a.tsn, .i t.b.tag, .i t.b.window, .i t.b.streams, .i t.b.tsn, .i t.size, .r (.ro none (t.says.map Say.row))])], 1, []⟩)
    (fun y => y.1 ≤ t.says.length ∧ (0 ≤ y.2.1 ∧ y.2.1 ≤ 80 * y.1) ∧ (0 ≤ y.2.2 ∧ y.2.2 ≤ 80 * y.1) ∧ talkLoop t (t.says.drop y.1) y.2.1 y.2.2 = talkLoop t t.says 0 0) (fun y => t.says.length - y.1) (0, 0, 0)
    ⟨Nat.zero_le _, by simp, by simp, rfl⟩ (Le.refl _) ?_
  rintro ⟨i, a, b⟩ ⟨hi, ha, hb, hI⟩
  simp only at hi ha hb hI
  unfold pc53l0
  simp only [go_sem, ↓reduceIte]
  intro _
  refine ⟨fun hlt => ?_, fun hge => ?_⟩
  · have hil : i < t.says.length := by omega
    rw [talkLoop_drop hil] at hI
    simp only [Int.toNat_natCast, getD_map hil, Say.row, go_sem, ↓reduceIte]
    refine ⟨⟨by omega, by omega⟩, ?_⟩
    have hws : IntKind.i64.wrap (t.a.streams - 1) = t.a.streams - 1 ∧ IntKind.i64.wrap (t.b.streams - 1) = t.b.streams - 1 := by
      simp [initB] at h4 h5
      exact ⟨wrap64 (by omega) (by omega), wrap64 (by omega) (by omega)⟩
    obtain ⟨hwa, hwb⟩ := hws
    generalize t.says[i] = s at hI
    obtain ⟨byB, stream, loose, text⟩ := s
    simp only at hI
    have hfin : ∀ (k : Int), 0 ≤ k → k ≤ 1048576 * 80 → True := fun _ _ _ => trivial
    cases byB
    all_goals
      repeat' first | refine And.intro ?_ ?_ | intro _ | (refine c_l6In hP ?_; simp only [hwa, hwb, go_sem, ↓reduceIte])
    all_goals first
      | (refine bo_inj ?_; have hz : talkLoop t t.says 0 0 = false := (by rw [← hI]; clear hI; simp [sayOk, *]); simp [talkB, hz]; done)
      | skip
    all_goals
      rename_i k1 k2
      have hk1 : 1 ≤ (text.length : Int) ∧ (text.length : Int) ≤ 60 := by simpa [inB] using k1
      have hmn := many_le (s := ⟨false, stream, loose, text⟩) hsz (by simp only; omega)
      simp only [manyOf] at hmn
      refine call_pure (hP ▸ s_l41Many text t.size (by omega)) rfl rfl ?_
      simp only [go_sem, ↓reduceIte]
      simp [sayOk, k1, k2, manyOf] at hI
      rw [wrap64 (x := (i : Int) + 1) (by omega) (by omega), wrap64 (by omega) (by omega)]
    · exact ⟨(i + 1, _, b), ⟨hil, by simp only; omega, by simp only; omega, hI⟩, by simp only; omega, le_ev [] (by simp only [hm, go_sem, ↓reduceIte]; rfl)⟩
    · exact ⟨(i + 1, a, _), ⟨hil, by simp only; omega, by simp only; omega, hI⟩, by simp only; omega, le_ev [] (by simp only [hm, go_sem, ↓reduceIte]; rfl)⟩
  · have : i = t.says.length := by omega
    subst this
    rw [List.drop_eq_nil_of_le (Nat.le_refl _)] at hI
    simp only [talkLoop] at hI
    simp only [talkB, hhead, ← hI]
    repeat' first | refine And.intro ?_ ?_ | intro _
    all_goals (clear hI; refine bo_inj ?_; simp [*] <;> omega)

end Go.Cap
