import Derived.Test.YtfanhpebfnbobaaEngC
import Derived.Test.YtfanhpebfnbobaaPc
/- Contracts of the functions that TalkValid reaches. -/
namespace Go.Cap
open Go Go.Proofs
set_option maxRecDepth 100000
set_option linter.unusedSimpArgs false
set_option linter.unusedVariables false
attribute [local irreducible] Call Run Spec Le

def serialB (x : Int) : Bool := decide (0 ≤ x ∧ x < 65536)
theorem bo_inj {a b : Bool} (h : a = b) : AV.r (.b a) = AV.bo b := by rw [h]
def inB (n lo hi : Int) : Bool := decide (lo ≤ n ∧ n ≤ hi)
structure Say where
  byB : Bool
  stream : Int
  loose : Bool
  text : List UInt8
def Say.row (s : Say) : List RV := [.b s.byB, .n .i64 s.stream, .b s.loose, .s s.text]
def Say.av (s : Say) : AV := .agg [.bo s.byB, .i s.stream, .bo s.loose, .st s.text]
structure Init where
  tag : Int
  window : Int
  streams : Int
  tsn : Int
def Init.av (x : Init) : AV := .agg [.i x.tag, .i x.window, .i x.streams, .i x.tsn]
def initB (x : Init) : Bool := decide (1 ≤ x.tag ∧ x.tag ≤ 4294967295 ∧ 1 ≤ x.streams ∧ x.streams ≤ 4) && serialB x.window && serialB x.tsn
structure Talk where
  fr : Int
  to : Int
  a : Init
  b : Init
  size : Int
  says : List Say
def Talk.av (t : Talk) (x : AV) : AV := .agg [.i t.fr, .i t.to, .i t.a.tag, .i t.a.window, .i t.a.streams, .i t.a.tsn, .i t.b.tag, .i t.b.window, .i t.b.streams, .i t.b.tsn, .i t.size, x]
abbrev Talk.ro (t : Talk) : AV := t.av (.r (.ro none (t.says.map Say.row)))

theorem s_serialOk (x : Int) : Spec Try.prog 109 0 [] [.i x] (fun r _ _ _ => r = .bo (serialB x)) := by
  refine mk109 rfl fun c hP hm => ?_
  unfold pc109
  simp only [go_sem, ↓reduceIte]
  repeat' first | refine And.intro ?_ ?_ | intro _
  all_goals (simp [serialB]; try omega)
theorem c_serialOk {c : Cx} (hP : c.P = Try.prog) {x : Int} {s : St} {K : AV → St → Prop} (h : K (.bo (serialB x)) s) : Call c 109 [.i x] s K :=
  call_pure (hP ▸ s_serialOk x) rfl rfl h
theorem s_l6In (x lo hi : Int) : Spec Try.prog 116 0 [] [.i x, .i lo, .i hi] (fun r _ _ _ => r = .bo (inB x lo hi)) := by
  refine mk116 rfl fun c hP hm => ?_
  unfold pc116
  simp only [go_sem, ↓reduceIte]
  repeat' first | refine And.intro ?_ ?_ | intro _
  all_goals (simp [inB]; try omega)
theorem c_l6In {c : Cx} (hP : c.P = Try.prog) {x lo hi : Int} {s : St} {K : AV → St → Prop} (h : K (.bo (inB x lo hi)) s) : Call c 116 [.i x, .i lo, .i hi] s K :=
  call_pure (hP ▸ s_l6In x lo hi) rfl rfl h
theorem s_l3Ok (x : Int) : Spec Try.prog 163 0 [] [.i x] (fun r _ _ _ => r = .bo (serialB x)) := by
  refine mk163 rfl fun c hP hm => ?_
  unfold pc163
  simp only [go_sem, ↓reduceIte]
  refine c_l6In hP ?_
  simp only [go_sem, ↓reduceIte]
  rw [show serialB x = inB x 0 65535 by simp only [serialB, inB, decide_eq_decide]; omega]
theorem c_l3Ok {c : Cx} (hP : c.P = Try.prog) {x : Int} {s : St} {K : AV → St → Prop} (h : K (.bo (serialB x)) s) : Call c 163 [.i x] s K :=
  call_pure (hP ▸ s_l3Ok x) rfl rfl h
theorem s_initOk (x : Init) : Spec Try.prog 108 0 [] [x.av] (fun r _ _ _ => r = .bo (initB x)) := by
  obtain ⟨a, b, d, e⟩ := x
  refine mk108 rfl fun c hP hm => ?_
  unfold pc108 Init.av
  simp only [go_sem, ↓reduceIte]
  repeat' first | refine And.intro ?_ ?_ | intro _ | (refine c_serialOk hP ?_; simp only [go_sem, ↓reduceIte])
  all_goals (simp [initB, *]; try omega)
theorem c_initOk {c : Cx} (hP : c.P = Try.prog) {a b d e : Int} {s : St} {K : AV → St → Prop} (h : K (.bo (initB ⟨a, b, d, e⟩)) s) : Call c 108 [.agg [.i a, .i b, .i d, .i e]] s K :=
  call_pure (hP ▸ s_initOk ⟨a, b, d, e⟩) rfl rfl h
theorem s_l12Init (x : Init) : Spec Try.prog 136 0 [] [x.av] (fun r _ _ _ => r = .bo (initB x)) := by
  obtain ⟨a, b, d, e⟩ := x
  refine mk136 rfl fun c hP hm => ?_
  unfold pc136 Init.av
  simp only [go_sem, ↓reduceIte]
  repeat' first | refine And.intro ?_ ?_ | intro _ | (refine c_l6In hP ?_; simp only [go_sem, ↓reduceIte]) | (refine c_l3Ok hP ?_; simp only [go_sem, ↓reduceIte])
  all_goals (simp [initB, inB, serialB] at *; try omega)
end Go.Cap

/- Contracts: comparing talks; TalkValid, twice. -/
namespace Go.Cap
open Go Go.Proofs
set_option maxRecDepth 100000
set_option linter.unusedSimpArgs false
set_option linter.unusedVariables false
attribute [local irreducible] Call Run Spec Le

theorem s_l41Many (x : List UInt8) (n : Int) (h : x.length ≤ 60 ∧ 1 ≤ x.length ∧ 1 ≤ n ∧ n ≤ 20) : Spec Try.prog 77 0 [] [.st x, .i n] (fun r _ _ _ => r = .i ((x.length + n - 1) / n)) := by
  refine mk77 rfl fun c hP hm => ?_
  unfold pc77
  simp only [go_sem, ↓reduceIte]
  have e : (IntKind.i64.wrap (IntKind.i64.wrap (↑x.length + n) - 1)) = x.length + n - 1 := by
    rw [wrap64 (x := x.length + n) (by omega) (by omega), wrap64 (by omega) (by omega)]
  rw [e]
  have h1 : ((x.length : Int) + n - 1).tdiv n = ((x.length : Int) + n - 1) / n := Int.tdiv_eq_ediv_of_nonneg (by omega)
  have h2 : 0 ≤ ((x.length : Int) + n - 1) / n := Int.ediv_nonneg (by omega) (by omega)
  have h3 : ((x.length : Int) + n - 1) / n ≤ (x.length : Int) + n - 1 := Int.ediv_le_self _ (by omega)
  rw [h1, wrap64 (by omega) (by omega)]
  exact ⟨by omega, rfl⟩

def sayOk (t : Talk) (s : Say) : Bool := inB s.text.length 1 60 && (if s.byB then inB s.stream 0 (t.b.streams - 1) else inB s.stream 0 (t.a.streams - 1))
def talkHead (t : Talk) : Bool := inB t.fr 1 65535 && inB t.to 1 65535 && !(t.fr == t.to) && initB t.a && initB t.b && inB t.size 1 20
def manyOf (t : Talk) (s : Say) : Int := (s.text.length + t.size - 1) / t.size
def talkLoop (t : Talk) : List Say → Int → Int → Bool
  | [], a, b => decide (a ≤ 12) && decide (b ≤ 12)
  | s :: l, a, b => sayOk t s && (if s.byB then talkLoop t l a (b + manyOf t s) else talkLoop t l (a + manyOf t s) b)
def talkB (t : Talk) : Bool := talkHead t && decide (t.says.length ≤ 4) && talkLoop t t.says 0 0
theorem talkLoop_drop {t : Talk} {l : List Say} {i : Nat} (h : i < l.length) (a b : Int) : talkLoop t (l.drop i) a b =
    (sayOk t l[i] && (if l[i].byB then talkLoop t (l.drop (i + 1)) a (b + manyOf t l[i]) else talkLoop t (l.drop (i + 1)) (a + manyOf t l[i]) b)) := by
  rw [List.drop_eq_getElem_cons h]; rfl
theorem many_le {t : Talk} {s : Say} (h1 : 1 ≤ t.size ∧ t.size ≤ 20) (h2 : s.text.length ≤ 60) : 0 ≤ manyOf t s ∧ manyOf t s ≤ 80 := by
  unfold manyOf
  have h2 : 0 ≤ ((s.text.length : Int) + t.size - 1) / t.size := Int.ediv_nonneg (by omega) (by omega)
  have h3 : ((s.text.length : Int) + t.size - 1) / t.size ≤ (s.text.length : Int) + t.size - 1 := Int.ediv_le_self _ (by omega)
  omega

theorem s_specTalkValid (t : Talk) (hl : t.says.length ≤ 1048576) (hx : ∀ s ∈ t.says, s.text.length ≤ 1048576) : Spec Try.prog 74 0 [] [t.ro] (fun r _ _ _ => r = .bo (talkB t)) := by
  refine mk74 rfl fun c hP hm => ?_
  unfold pc74 Talk.ro Talk.av
  simp only [go_sem, ↓reduceIte]
  repeat' first | refine And.intro ?_ ?_ | intro _ | (refine c_l6In hP ?_; simp only [go_sem, ↓reduceIte]) | (refine call_pure (hP ▸ s_l12Init t.a) rfl rfl ?_; simp only [go_sem, ↓reduceIte]) | (refine call_pure (hP ▸ s_l12Init t.b) rfl rfl ?_; simp only [go_sem, ↓reduceIte])
  all_goals first | (simp [talkB, talkHead, *]; done) | skip
  rename_i h1 h2 h3 h4 h5 h6
  have hsz : 1 ≤ t.size ∧ t.size ≤ 20 := by simpa [inB] using h6
  have hhead : talkHead t = true := by simp [talkHead, *]
  refine lp_wpc (α := Nat × Int × Int) (fun y => ⟨[(1, .ptr 0 0 0), (3, .i y.2.1), (4, .i y.2.2), (5, .i y.1)],
      [(0, .var [.i t.fr, .i t.to, .i t.a.tag, .i t.a.window, .i t.a.streams, .i t.a.tsn, .i t.b.tag, .i t.b.window, .i t.b.streams, .i t.b.tsn, .i t.size, .r (.ro none (t.says.map Say.row))])], 1, []⟩)
    (fun y => y.1 ≤ t.says.length ∧ (0 ≤ y.2.1 ∧ y.2.1 ≤ 80 * y.1) ∧ (0 ≤ y.2.2 ∧ y.2.2 ≤ 80 * y.1) ∧ talkLoop t (t.says.drop y.1) y.2.1 y.2.2 = talkLoop t t.says 0 0) (fun y => t.says.length - y.1) (0, 0, 0)
    ⟨Nat.zero_le _, by simp, by simp, rfl⟩ (Le.refl _) ?_
  rintro ⟨i, a, b⟩ ⟨hi, ha, hb, hI⟩
  simp only at hi ha hb hI
  unfold pc74l0
  simp only [go_sem, ↓reduceIte]
  intro _
  refine ⟨fun hlt => ?_, fun hge => ?_⟩
  · have hil : i < t.says.length := by omega
    rw [talkLoop_drop hil] at hI
    simp only [Int.toNat_natCast, getD_map hil, Say.row, go_sem, ↓reduceIte]
    refine ⟨⟨by omega, by omega⟩, ?_⟩
    have hws : IntKind.i64.wrap (t.a.streams - 1) = t.a.streams - 1 ∧ IntKind.i64.wrap (t.b.streams - 1) = t.b.streams - 1 := by
      simp [initB] at h4 h5
      exact ⟨wrap64 (by omega) (by omega), wrap64 (by omega) (by omega)⟩
    obtain ⟨hwa, hwb⟩ := hws
    generalize t.says[i] = s at hI
    obtain ⟨byB, stream, loose, text⟩ := s
    simp only at hI
    have hfin : ∀ (k : Int), 0 ≤ k → k ≤ 1048576 * 80 → True := fun _ _ _ => trivial
    cases byB
    all_goals
      repeat' first | refine And.intro ?_ ?_ | intro _ | (refine c_l6In hP ?_; simp only [hwa, hwb, go_sem, ↓reduceIte])
    all_goals first
      | (refine bo_inj ?_; have hz : talkLoop t t.says 0 0 = false := (by rw [← hI]; clear hI; simp [sayOk, *]); simp [talkB, hz]; done)
      | skip
    all_goals
      rename_i k1 k2
      have hk1 : 1 ≤ (text.length : Int) ∧ (text.length : Int) ≤ 60 := by simpa [inB] using k1
      have hmn := many_le (s := ⟨false, stream, loose, text⟩) hsz (by simp only; omega)
      simp only [manyOf] at hmn
      refine call_pure (hP ▸ s_l41Many text t.size (by omega)) rfl rfl ?_
      simp only [go_sem, ↓reduceIte]
      simp [sayOk, k1, k2, manyOf] at hI
      rw [wrap64 (x := (i : Int) + 1) (by omega) (by omega), wrap64 (by omega) (by omega)]
    · exact ⟨(i + 1, _, b), ⟨hil, by simp only; omega, by simp only; omega, hI⟩, by simp only; omega, le_ev [] (by simp only [hm, go_sem, ↓reduceIte]; rfl)⟩
    · exact ⟨(i + 1, a, _), ⟨hil, by simp only; omega, by simp only; omega, hI⟩, by simp only; omega, le_ev [] (by simp only [hm, go_sem, ↓reduceIte]; rfl)⟩
  · have : i = t.says.length := by omega
    subst this
    rw [List.drop_eq_nil_of_le (Nat.le_refl _)] at hI
    simp only [talkLoop] at hI
    simp only [talkB, hhead, ← hI]
    repeat' first | refine And.intro ?_ ?_ | intro _
    all_goals (clear hI; refine bo_inj ?_; simp [*] <;> omega)

theorem s_implTalkValid (t : Talk) (hl : t.says.length ≤ 1048576) : Spec Try.prog 51 0 [] [t.ro] (fun r _ _ _ => r = .bo (talkB t)) := by
  refine mk51 rfl fun c hP hm => ?_
  unfold pc51 Talk.ro Talk.av
  simp only [go_sem, ↓reduceIte]
  repeat' first | refine And.intro ?_ ?_ | intro _ | (refine c_initOk hP ?_; simp only [go_sem, ↓reduceIte])
  all_goals first | (refine bo_inj ?_; simp [talkB, talkHead, inB, *] <;> omega) | skip
  rename_i h1 h1' h2 h2' h3 h4 h5 h6 h6' _ h7 _
  have hsz : 1 ≤ t.size ∧ t.size ≤ 20 := ⟨h6, h6'⟩
  have hhead : talkHead t = true := by simp [talkHead, inB, *]
  refine lp_wpc (α := Nat × Int × Int) (fun y => ⟨[(1, .ptr 0 0 0), (3, .ptr 1 0 0), (63, .r (.ro none (t.says.map Say.row))), (64, .i t.says.length), (65, .i y.1)],
      [(1, .var [.i y.2.1, .i y.2.2]), (0, .var [.i t.fr, .i t.to, .i t.a.tag, .i t.a.window, .i t.a.streams, .i t.a.tsn, .i t.b.tag, .i t.b.window, .i t.b.streams, .i t.b.tsn, .i t.size, .r (.ro none (t.says.map Say.row))])], 2, []⟩)
    (fun y => y.1 ≤ t.says.length ∧ (0 ≤ y.2.1 ∧ y.2.1 ≤ 80 * y.1) ∧ (0 ≤ y.2.2 ∧ y.2.2 ≤ 80 * y.1) ∧ talkLoop t (t.says.drop y.1) y.2.1 y.2.2 = talkLoop t t.says 0 0) (fun y => t.says.length - y.1) (0, 0, 0)
    ⟨Nat.zero_le _, by simp, by simp, rfl⟩ (Le.refl _) ?_
  rintro ⟨i, a, b⟩ ⟨hi, ha, hb, hI⟩
  simp only at hi ha hb hI
  unfold pc51l0
  simp only [go_sem, ↓reduceIte]
  refine ⟨fun hlt => ?_, fun hge => ?_⟩
  · have hil : i < t.says.length := by omega
    rw [talkLoop_drop hil] at hI
    simp only [Int.toNat_natCast, getD_map hil, Say.row, go_sem, ↓reduceIte]
    refine ⟨⟨by omega, by omega⟩, ?_⟩
    generalize t.says[i] = s at hI
    obtain ⟨byB, stream, loose, text⟩ := s
    simp only at hI
    cases byB
    all_goals
      simp only [go_sem, ↓reduceIte]
      repeat' first | refine And.intro ?_ ?_ | intro _
    all_goals first
      | (refine bo_inj ?_; have hz : talkLoop t t.says 0 0 = false := (by rw [← hI]; clear hI; simp [sayOk, inB, *] <;> omega); simp [talkB, hz]; done)
      | skip
    all_goals first | omega | skip
    all_goals
      rename_i k1 k2 k3 k4
      have hmn := many_le (s := ⟨false, stream, loose, text⟩) hsz (by simp only; omega)
      simp only [manyOf] at hmn
      have e : ((text.length : Int) + t.size - 1).tdiv t.size = ((text.length : Int) + t.size - 1) / t.size := Int.tdiv_eq_ediv_of_nonneg (by omega)
      simp only [sayOk, inB, manyOf, k1, k2, k3, k4, and_self, decide_true, Bool.true_and, if_true, Bool.false_eq_true, if_false] at hI
    · have k5 : stream ≤ t.a.streams - 1 := by omega
      simp only [k5, decide_true, Bool.true_and] at hI
      rw [wrap64 (x := (text.length : Int) + t.size) (by omega) (by omega), wrap64 (x := (text.length : Int) + t.size - 1) (by omega) (by omega), e, wrap64 (x := ((text.length : Int) + t.size - 1) / t.size) (by omega) (by omega), wrap64 (x := a + _) (by omega) (by omega), wrap64 (x := (i : Int) + 1) (by omega) (by omega)]
      exact ⟨(i + 1, _, b), ⟨hil, by simp only; omega, by simp only; omega, hI⟩, by simp only; omega, le_ev [] (by simp only [hm, go_sem, ↓reduceIte]; rfl)⟩
    · have k5 : stream ≤ t.b.streams - 1 := by omega
      simp only [k5, decide_true, Bool.true_and] at hI
      rw [wrap64 (x := (text.length : Int) + t.size) (by omega) (by omega), wrap64 (x := (text.length : Int) + t.size - 1) (by omega) (by omega), e, wrap64 (x := ((text.length : Int) + t.size - 1) / t.size) (by omega) (by omega), wrap64 (x := b + _) (by omega) (by omega), wrap64 (x := (i : Int) + 1) (by omega) (by omega)]
      exact ⟨(i + 1, a, _), ⟨hil, by simp only; omega, by simp only; omega, hI⟩, by simp only; omega, le_ev [] (by simp only [hm, go_sem, ↓reduceIte]; rfl)⟩
  · have : i = t.says.length := by omega
    subst this
    rw [List.drop_eq_nil_of_le (Nat.le_refl _)] at hI
    simp only [talkLoop] at hI
    simp only [talkB, hhead, ← hI]
    repeat' first | refine And.intro ?_ ?_ | intro _
    all_goals (clear hI; refine bo_inj ?_; simp [*] <;> omega)
end Go.Cap

/- Talks that came in. -/
namespace Go.Cap
open Go Go.Proofs
set_option maxRecDepth 100000
set_option linter.unusedSimpArgs false
set_option linter.unusedVariables false
attribute [local irreducible] Call Run Spec Le

theorem vw_talk {hp : List (Nat × Blk)} {b : Nat} {t : Talk} {n : Nat} (h : hget hp b = some (.row 4 (t.says.map Say.row))) (hn : n = t.says.length) : Vw hp (t.av (.sl b 0 n)) t.ro :=
  vw_agg (.cons (.r _) (.cons (.r _) (.cons (.r _) (.cons (.r _) (.cons (.r _) (.cons (.r _) (.cons (.r _) (.cons (.r _) (.cons (.r _) (.cons (.r _) (.cons (.r _) (.cons (Vw.full h (by simpa using hn)) .nil))))))))))))

end Go.Cap

/- What a valid talk promises. -/
namespace Go.Cap
open Go Go.Proofs
set_option linter.unusedSimpArgs false
set_option linter.unusedVariables false

theorem talk_ok {t : Talk} (h : talkB t = true) : (1 ≤ t.size ∧ t.size ≤ 20) ∧ t.says.length ≤ 4 ∧ (∀ s ∈ t.says, 1 ≤ s.text.length ∧ s.text.length ≤ 60 ∧ 0 ≤ s.stream ∧ s.stream < (if s.byB then t.b.streams else t.a.streams)) ∧ (0 ≤ t.a.tsn ∧ t.a.tsn < 65536) ∧ (0 ≤ t.b.tsn ∧ t.b.tsn < 65536) ∧
    (1 ≤ t.a.streams ∧ t.a.streams ≤ 4) ∧ (1 ≤ t.b.streams ∧ t.b.streams ≤ 4) := by
  simp only [talkB, talkHead, inB, initB, serialB, Bool.and_eq_true, decide_eq_true_eq] at h
  obtain ⟨⟨⟨⟨⟨⟨h1, h2⟩, ⟨⟨⟨_, _, h9, h10⟩, _⟩, h3⟩⟩, ⟨⟨⟨_, _, h11, h12⟩, _⟩, h4⟩⟩, h5⟩, h6⟩, h7⟩ := h
  refine ⟨h5, by omega, ?_, h3, h4, ⟨h9, h10⟩, ⟨h11, h12⟩⟩
  have key : ∀ (l : List Say) (a b : Int), talkLoop t l a b = true → ∀ s ∈ l, sayOk t s = true := by
    intro l
    induction l with
    | nil => intro a b _ s hs; cases hs
    | cons x l ih =>
      intro a b h s hs
      simp only [talkLoop, Bool.and_eq_true] at h
      rcases List.mem_cons.1 hs with rfl | hs
      · exact h.1
      · have := h.2
        split at this
        · exact ih _ _ this s hs
        · exact ih _ _ this s hs
  intro s hs
  have := key _ _ _ h7 s hs
  simp only [sayOk, inB, Bool.and_eq_true, decide_eq_true_eq] at this
  obtain ⟨⟨k1, k2⟩, k3⟩ := this
  cases hb : s.byB
  · rw [hb] at k3; simp at k3; simp; omega
  · rw [hb] at k3; simp at k3; simp; omega
end Go.Cap

/- The parts of a talk, in plain terms. -/
namespace Go.Cap
set_option linter.unusedVariables false
set_option linter.unusedSimpArgs false

def l3 (a n : Int) : Int := (a + n) % 65536
structure Data where
  tsn : Int
  stream : Int
  ssn : Int
  first : Bool
  last : Bool
  loose : Bool
  text : List UInt8
def Data.row (d : Data) : List RV := [.n .i64 d.tsn, .n .i64 d.stream, .n .i64 d.ssn, .b d.first, .b d.last, .b d.loose, .s d.text]
def Data.av (d : Data) : AV := .agg [.i d.tsn, .i d.stream, .i d.ssn, .bo d.first, .bo d.last, .bo d.loose, .st d.text]

/-- How many parts a text of 'n' bytes has. -/
def manyN (n sz : Nat) : Nat := (n + sz - 1) / sz
/-- Part 'j' of a message. -/
def part (sz : Nat) (tsn : Int) (ssn : Int) (s : Say) (j : Nat) : Data := ⟨l3 tsn j, s.stream, ssn, decide (j = 0), decide (s.text.length ≤ (j + 1) * sz), s.loose, (s.text.take ((j + 1) * sz)).drop (j * sz)⟩
def chunks (sz : Nat) (tsn ssn : Int) (s : Say) : List Data := (List.range (manyN s.text.length sz)).map (part sz tsn ssn s)
/-- How many ordered messages of a stream begin in parts. -/
def ssnIn (out : List Data) (stream : Int) : Nat := out.countP fun d => d.first && !d.loose && d.stream == stream
def ssnOf (out : List Data) (s : Say) : Int := if s.loose then 0 else ssnIn out s.stream
def nextParts (sz : Nat) (tsn : Int) (out : List Data) (s : Say) : List Data := chunks sz (l3 tsn out.length) (ssnOf out s) s
/-- The parts of a side, behind those that are there. -/
def partsAcc (sz : Nat) (tsn : Int) (byB : Bool) : List Say → List Data → List Data
  | [], out => out
  | s :: l, out => partsAcc sz tsn byB l (if s.byB = byB then out ++ nextParts sz tsn out s else out)
def Talk.tsn (t : Talk) (byB : Bool) : Int := if byB then t.b.tsn else t.a.tsn
def talkParts (t : Talk) (byB : Bool) : List Data := if talkB t then partsAcc t.size.toNat (t.tsn byB) byB t.says [] else []

theorem l3_l3 (a m n : Int) : l3 (l3 a m) n = l3 a (m + n) := by unfold l3; omega
theorem l3_range (a n : Int) : 0 ≤ l3 a n ∧ l3 a n < 65536 := by unfold l3; omega
theorem serial_l3 (a n : Int) : serialB (l3 a n) = true := by have := l3_range a n; simp [serialB]; omega
theorem l3_zero {a : Int} (h : 0 ≤ a ∧ a < 65536) : l3 a 0 = a := by unfold l3; omega
theorem many_lt {n sz j : Nat} (hsz : 1 ≤ sz) : j < manyN n sz ↔ j * sz < n := by
  unfold manyN
  rw [Nat.lt_div_iff_mul_lt hsz]
  constructor <;> intro h <;> omega
theorem chunks_len (sz : Nat) (tsn ssn : Int) (s : Say) : (chunks sz tsn ssn s).length = manyN s.text.length sz := by simp [chunks]
theorem chunks_get {sz : Nat} {tsn ssn : Int} {s : Say} {j : Nat} (h : j < manyN s.text.length sz) : (chunks sz tsn ssn s)[j]? = some (part sz tsn ssn s j) := by simp [chunks, h]
theorem take_chunks {sz : Nat} {tsn ssn : Int} {s : Say} {j : Nat} (h : j < manyN s.text.length sz) : (chunks sz tsn ssn s).take (j + 1) = (chunks sz tsn ssn s).take j ++ [part sz tsn ssn s j] := by
  rw [List.take_add_one, chunks_get h]; rfl
theorem ssnIn_app (a b : List Data) (x : Int) : ssnIn (a ++ b) x = ssnIn a x + ssnIn b x := by simp [ssnIn, List.countP_append]
theorem ssnIn_chunks {sz : Nat} (hsz : 1 ≤ sz) (tsn ssn : Int) (s : Say) (h1 : 1 ≤ s.text.length) (x : Int) : ssnIn (chunks sz tsn ssn s) x = if s.loose = false ∧ s.stream = x then 1 else 0 := by
  have hm : 0 < manyN s.text.length sz := (many_lt hsz).2 (by omega)
  obtain ⟨m, hm⟩ : ∃ m, manyN s.text.length sz = m + 1 := ⟨manyN s.text.length sz - 1, by omega⟩
  unfold ssnIn chunks
  rw [hm, List.range_succ_eq_map, List.map_cons, List.countP_cons]
  have h0 : List.countP (fun d : Data => d.first && !d.loose && d.stream == x) (((List.range m).map Nat.succ).map (part sz tsn ssn s)) = 0 := by
    rw [List.countP_eq_zero]
    intro d hd
    simp only [List.map_map, List.mem_map, Function.comp] at hd
    obtain ⟨j, _, rfl⟩ := hd
    simp [part]
  rw [h0]
  simp only [part]
  cases hl : s.loose <;> simp [hl]
theorem partsAcc_drop {sz : Nat} {tsn : Int} {byB : Bool} {l : List Say} {i : Nat} (h : i < l.length) (out : List Data) : partsAcc sz tsn byB (l.drop i) out = partsAcc sz tsn byB (l.drop (i + 1)) (if l[i].byB = byB then out ++ nextParts sz tsn out l[i] else out) := by
  rw [List.drop_eq_getElem_cons h]; rfl
theorem many_le2 {n sz : Nat} (hsz : 1 ≤ sz) : manyN n sz ≤ n := by
  unfold manyN
  rcases Nat.eq_zero_or_pos n with h | h
  · subst h; simp; omega
  · rw [Nat.div_le_iff_le_mul_add_pred (by omega)]
    have : n ≤ n * sz := Nat.le_mul_of_pos_right n (by omega)
    have e : sz * n = n * sz := Nat.mul_comm _ _
    omega
theorem nextParts_len (sz : Nat) (tsn : Int) (out : List Data) (s : Say) : (nextParts sz tsn out s).length = manyN s.text.length sz := by simp [nextParts, chunks_len]
theorem take_get {α : Type} {l : List α} {i : Nat} (h : i < l.length) : l.take (i + 1) = l.take i ++ [l[i]] := by rw [List.take_add_one, List.getElem?_eq_getElem h]; rfl
theorem ssnIn_take {l : List Data} {i : Nat} (h : i < l.length) (x : Int) : ssnIn (l.take (i + 1)) x = ssnIn (l.take i) x + (if l[i].first = true ∧ l[i].loose = false ∧ l[i].stream = x then 1 else 0) := by
  rw [take_get h, ssnIn_app]
  congr 1
  simp only [ssnIn, List.countP_cons, List.countP_nil]
  cases l[i].first <;> cases l[i].loose <;> simp
theorem ssnIn_le (l : List Data) (x : Int) : ssnIn l x ≤ l.length := List.countP_le_length
end Go.Cap

/- Contracts: serial numbers; the reference's parts. -/
namespace Go.Cap
open Go Go.Proofs
set_option maxRecDepth 100000
set_option linter.unusedSimpArgs false
set_option linter.unusedVariables false
attribute [local irreducible] Call Run Spec Le

theorem tmod64k (n : Int) : -65536 < n.tmod 65536 ∧ n.tmod 65536 < 65536 ∧ (n.tmod 65536 - n) % 65536 = 0 := by
  rcases Int.lt_or_le n 0 with h | h
  · have e : n.tmod 65536 = -((-n).tmod 65536) := by rw [← Int.neg_tmod, Int.neg_neg]
    rw [e, Int.tmod_eq_emod_of_nonneg (by omega)]; omega
  · rw [Int.tmod_eq_emod_of_nonneg h]; omega
theorem s_l3Add (a n : Int) (ha : 0 ≤ a ∧ a < 65536) : Spec Try.prog 139 0 [] [.i a, .i n] (fun r _ _ _ => r = .i (l3 a n)) := by
  refine mk139 rfl fun c hP hm => ?_
  unfold pc139
  simp only [go_sem, ↓reduceIte]
  obtain ⟨h1, h2, h3⟩ := tmod64k n
  simp (disch := omega) only [wrap64]
  rw [Int.tmod_eq_emod_of_nonneg (by omega)]
  unfold l3
  congr 2; omega
theorem s_SerialAdd (a n : Int) : Spec Try.prog 111 0 [] [.i a, .i n] (fun r _ _ _ => r = .i (if serialB a then l3 a n else -1)) := by
  refine mk111 rfl fun c hP hm => ?_
  unfold pc111
  simp only [go_sem, ↓reduceIte]
  refine c_serialOk hP ?_
  simp only [go_sem, ↓reduceIte]
  refine ⟨fun h => ?_, fun h => ?_⟩
  · rw [h]; rfl
  · have ha : 0 ≤ a ∧ a < 65536 := by simpa [serialB] using h
    obtain ⟨h1, h2, h3⟩ := tmod64k n
    have h4 := tmod64k (a + n.tmod 65536)
    simp (disch := omega) only [wrap64]
    rw [Int.tmod_eq_emod_of_nonneg (a := (a + n.tmod 65536).tmod 65536 + 65536) (by omega), h, if_pos rfl]
    unfold l3
    congr 2; omega
theorem dataClosed (l : List Data) : closL2 (l.map Data.row) := closL2_map (fun s x hx => by
  simp only [Data.row, List.mem_cons, List.not_mem_nil, or_false] at hx
  rcases hx with rfl | rfl | rfl | rfl | rfl | rfl | rfl <;> rfl) l
theorem s_l31Ssn (l : List Data) (x : Int) (hl : l.length ≤ 4000000) : Spec Try.prog 138 0 [] [.r (.ro none (l.map Data.row)), .i x] (fun r _ _ _ => r = .i (ssnIn l x)) := by
  refine mk138 rfl fun c hP hm => ?_
  unfold pc138
  simp only [go_sem, ↓reduceIte]
  refine lp_wpc (α := Nat) (fun i => ⟨[(0, .r (.ro none (l.map Data.row))), (1, .i x), (5, .i (ssnIn (l.take i) x)), (6, .i i)], [], 0, []⟩) (fun i => i ≤ l.length) (fun i => l.length - i) 0 (Nat.zero_le _) (le_eq (by simp [ssnIn])) ?_
  intro i hi
  unfold pc138l0
  simp only [go_sem, ↓reduceIte]
  intro _
  refine ⟨fun hlt => ?_, fun hge => ?_⟩
  · have hil : i < l.length := by omega
    have hs := ssnIn_take hil x
    have hle := ssnIn_le (l.take i) x
    simp only [List.length_take] at hle
    simp only [Int.toNat_natCast, getD_map hil, Data.row, go_sem, ↓reduceIte]
    generalize hd : l[i] = d at hs
    obtain ⟨a, b, e, f, g, h, k⟩ := d
    simp only at hs
    simp only [Data.row, go_sem, ↓reduceIte]
    refine ⟨⟨by omega, by omega⟩, ?_⟩
    have e1 : IntKind.i64.wrap ((i : Int) + 1) = ((i + 1 : Nat) : Int) := by rw [wrap64 (by omega) (by omega)]; omega
    have e2 : IntKind.i64.wrap ((ssnIn (l.take i) x : Int) + 1) = ((ssnIn (l.take i) x + 1 : Nat) : Int) := by rw [wrap64 (by omega) (by omega)]; omega
    rw [e1, e2]
    repeat' first | refine And.intro ?_ ?_ | intro _
    all_goals first
      | omega
      | (simp only [*, if_true, if_false, Bool.false_eq_true, and_self, true_and, false_and, and_false, reduceCtorEq] at hs
         exact ⟨i + 1, hil, by omega, le_eq (by rw [hs] <;> rfl)⟩)
  · have : i = l.length := by omega
    subst this
    simp

/-- What a valid talk promises. -/
theorem loop_l41Parts {c : Cx} (hP : c.P = Try.prog) (hm : c.m = 0) (t : Talk) (byB : Bool) (f : Int) (z : Nat) (hv : talkB t = true) (hz : t.size = z) (hf : 0 ≤ f ∧ f < 65536) {n r : St → Prop} {x : Nat → St → Prop}
    (hx : ∀ v k, x 0 ⟨[(1, .bo byB), (2, .ptr 0 0 0), (5, .i f), (6, .sl 1 0 (partsAcc z f byB t.says []).length), (7, k), (25, v)],
      [(1, .row 7 ((partsAcc z f byB t.says []).map Data.row)), (0, .var [.i t.fr, .i t.to, .i t.a.tag, .i t.a.window, .i t.a.streams, .i t.a.tsn, .i t.b.tag, .i t.b.window, .i t.b.streams, .i t.b.tsn, .i t.size, .r (.ro none (t.says.map Say.row))])], 2, []⟩) :
    Run c (.lp pc76l1) ⟨[(1, .bo byB), (2, .ptr 0 0 0), (5, .i f), (6, .sl 1 0 0), (7, .i 0)],
      [(1, .row 7 []), (0, .var [.i t.fr, .i t.to, .i t.a.tag, .i t.a.window, .i t.a.streams, .i t.a.tsn, .i t.b.tag, .i t.b.window, .i t.b.streams, .i t.b.tsn, .i t.size, .r (.ro none (t.says.map Say.row))])], 2, []⟩ n x r := by
  obtain ⟨hsz, hlen, hsays, hta, htb, _, _⟩ := talk_ok hv
  have hz1 : 1 ≤ z ∧ z ≤ 20 := by omega
  refine lp_wpc (α := Nat × List Data) (fun y => ⟨[(1, .bo byB), (2, .ptr 0 0 0), (5, .i f), (6, .sl 1 0 y.2.length), (7, .i y.1)],
      [(1, .row 7 (y.2.map Data.row)), (0, .var [.i t.fr, .i t.to, .i t.a.tag, .i t.a.window, .i t.a.streams, .i t.a.tsn, .i t.b.tag, .i t.b.window, .i t.b.streams, .i t.b.tsn, .i t.size, .r (.ro none (t.says.map Say.row))])], 2, []⟩)
    (fun y => y.1 ≤ t.says.length ∧ y.2.length ≤ 60 * y.1 ∧ partsAcc z f byB (t.says.drop y.1) y.2 = partsAcc z f byB t.says []) (fun y => t.says.length - y.1) (0, [])
    ⟨Nat.zero_le _, Nat.zero_le _, rfl⟩ (Le.refl _) ?_
  rintro ⟨i, out⟩ ⟨hi, ho, hI⟩
  simp only at hi ho hI
  unfold pc76l1
  simp only [go_sem, ↓reduceIte]
  intro _
  refine ⟨fun hlt => ?_, fun hge => ?_⟩
  · have hil : i < t.says.length := by omega
    rw [partsAcc_drop hil] at hI
    obtain ⟨q1, q2, q3, q4⟩ := hsays _ (List.getElem_mem hil)
    simp only [Int.toNat_natCast, getD_map hil, Say.row, go_sem, ↓reduceIte]
    generalize t.says[i] = s at hI q1 q2 q3 q4
    refine ⟨⟨by omega, by omega⟩, ?_⟩
    -- the inner loop
    have hml := many_le2 (n := s.text.length) hz1.1
    have inner : ∀ (ssn : Int), ssn = ssnOf out s → ∀ {n r : St → Prop} {x : Nat → St → Prop}, (∀ out', partsAcc z f byB (t.says.drop (i + 1)) out' = partsAcc z f byB t.says [] → out'.length ≤ 60 * (i + 1) → x 2 ⟨[(1, .bo byB), (2, .ptr 0 0 0), (5, .i f), (6, .sl 1 0 out'.length), (7, .i i)],
          [(1, .row 7 (out'.map Data.row)), (0, .var [.i t.fr, .i t.to, .i t.a.tag, .i t.a.window, .i t.a.streams, .i t.a.tsn, .i t.b.tag, .i t.b.window, .i t.b.streams, .i t.b.tsn, .i t.size, .r (.ro none (t.says.map Say.row))])], 2, []⟩) →
        Run c (.lp pc76l0) ⟨[(1, .bo byB), (2, .ptr 0 0 0), (5, .i f), (6, .sl 1 0 out.length), (7, .i i), (8, .ptr 2 0 0), (9, .i ssn), (10, .i 0)],
        [(2, .var [.bo s.byB, .i s.stream, .bo s.loose, .st s.text]), (1, .row 7 (out.map Data.row)), (0, .var [.i t.fr, .i t.to, .i t.a.tag, .i t.a.window, .i t.a.streams, .i t.a.tsn, .i t.b.tag, .i t.b.window, .i t.b.streams, .i t.b.tsn, .i t.size, .r (.ro none (t.says.map Say.row))])], 3, []⟩ n x r := by
      intro ssn hssn n r x hx
      refine run_exit 2 (fun t0 => ∃ out', t0 = ⟨[(1, .bo byB), (2, .ptr 0 0 0), (5, .i f), (6, .sl 1 0 out'.length), (7, .i i)], [(1, .row 7 (out'.map Data.row)), (0, .var [.i t.fr, .i t.to, .i t.a.tag, .i t.a.window, .i t.a.streams, .i t.a.tsn, .i t.b.tag, .i t.b.window, .i t.b.streams, .i t.b.tsn, .i t.size, .r (.ro none (t.says.map Say.row))])], 2, []⟩ ∧ partsAcc z f byB (t.says.drop (i + 1)) out' = partsAcc z f byB t.says [] ∧ out'.length ≤ 60 * (i + 1)) ?_
        (fun t0 ⟨out', h1, h2, h3⟩ => by rw [h1]; exact hx out' h2 h3)
      refine lp_wpc (α := Nat) (fun j => ⟨[(1, .bo byB), (2, .ptr 0 0 0), (5, .i f), (6, .sl 1 0 (out.length + j)), (7, .i i), (8, .ptr 2 0 0), (9, .i ssn), (10, .i (j * z : Nat))],
        [(2, .var [.bo s.byB, .i s.stream, .bo s.loose, .st s.text]), (1, .row 7 ((out ++ (nextParts z f out s).take j).map Data.row)), (0, .var [.i t.fr, .i t.to, .i t.a.tag, .i t.a.window, .i t.a.streams, .i t.a.tsn, .i t.b.tag, .i t.b.window, .i t.b.streams, .i t.b.tsn, .i t.size, .r (.ro none (t.says.map Say.row))])], 3, []⟩)
        (fun j => if s.byB = byB then j ≤ manyN s.text.length z else j = 0) (fun j => manyN s.text.length z - j) 0 (by simp) (le_eq (by simp)) ?_
      intro j hj
      unfold pc76l0
      simp only [go_sem, ↓reduceIte]
      have hout : ∀ j, j ≤ manyN s.text.length z → (out ++ (nextParts z f out s).take j).length = out.length + j := fun j hj => by
        simp [nextParts_len]; omega
      have hjs : j ≤ manyN s.text.length z := by split at hj <;> omega
      refine ⟨fun hlt2 => ?_, fun hge2 => ?_⟩
      · refine ⟨fun hb => ?_, fun hb => ?_⟩
        · rw [if_pos hb] at hj
          intro _
          have hjm : j < manyN s.text.length z := (many_lt hz1.1).2 (by omega)
          have hadd : (j + 1) * z = j * z + z := by rw [Nat.add_mul, Nat.one_mul]
          have e1 : IntKind.i64.wrap (((j * z : Nat) : Int) + t.size) = (((j + 1) * z : Nat) : Int) := by rw [wrap64 (by omega) (by omega)]; omega
          rw [e1]
          generalize hE : (if (s.text.length : Int) < (((j + 1) * z : Nat) : Int) then (s.text.length : Int) else (((j + 1) * z : Nat) : Int)) = E
          have hE1 : E = min (s.text.length : Int) (((j + 1) * z : Nat) : Int) := by rw [← hE]; split <;> omega
          refine ⟨⟨by omega, by omega, by omega⟩, ?_⟩
          have hpart : (part z (l3 f out.length) ssn s j).row = [.n .i64 (l3 f ((out.length + j : Nat) : Int)), .n .i64 s.stream, .n .i64 ssn, .b (((j * z : Nat) : Int) == 0), .b (E == s.text.length), .b s.loose, .s ((s.text.take E.toNat).drop ((j * z : Nat) : Int).toNat)] := by
            simp only [part, Data.row, l3_l3]
            have k1 : (decide (j = 0)) = (((j * z : Nat) : Int) == 0) := by
              rw [Bool.eq_iff_iff]; simp only [decide_eq_true_eq, beq_iff_eq]
              constructor
              · rintro rfl; simp
              · intro h
                have : j * z = 0 := by omega
                rcases Nat.mul_eq_zero.1 this with h | h <;> omega
            have k2 : (decide (s.text.length ≤ (j + 1) * z)) = (E == s.text.length) := by
              rw [Bool.eq_iff_iff]; simp only [decide_eq_true_eq, beq_iff_eq]; omega
            have k3 : s.text.take ((j + 1) * z) = s.text.take E.toNat := by
              rcases Nat.lt_or_ge s.text.length ((j + 1) * z) with h | h
              · have : E.toNat = s.text.length := by omega
                rw [this, List.take_of_length_le (by omega), List.take_of_length_le (by omega)]
              · have : E.toNat = (j + 1) * z := by omega
                rw [this]
            rw [k1, k2, k3, Int.toNat_natCast, show ((out.length : Int) + (j : Int)) = ((out.length + j : Nat) : Int) by omega]
          have hstep : (out ++ (nextParts z f out s).take j).map Data.row ++ [(part z (l3 f out.length) ssn s j).row] = (out ++ (nextParts z f out s).take (j + 1)).map Data.row := by
            rw [show (nextParts z f out s).take (j + 1) = (nextParts z f out s).take j ++ [part z (l3 f out.length) ssn s j] by rw [hssn]; exact take_chunks hjm]
            simp
          rw [hpart] at hstep
          have e2 : IntKind.i64.wrap (((j * z : Nat) : Int) + t.size) = (((j + 1) * z : Nat) : Int) := e1
          have htk2 : List.take (out.length + j) (List.map Data.row (out ++ List.take j (nextParts z f out s))) = List.map Data.row (out ++ List.take j (nextParts z f out s)) := List.take_of_length_le (by rw [List.length_map, hout j (by omega)]; omega)
          have hlk : (List.take j (nextParts z f out s)).length = j := by simp [nextParts_len]; omega
          repeat' first
            | refine And.intro ?_ ?_
            | (refine call_pure (hP ▸ s_l3Add f ((out.length + j : Nat) : Int) hf) rfl rfl ?_
               simp only [hm, go_sem, ↓reduceIte]
               rw [htk2, hstep, e2])
          all_goals first
            | omega
            | (refine ⟨j + 1, by rw [if_pos hb]; omega, by omega, le_ev [] ?_⟩
               simp only [hm, go_sem, ↓reduceIte]
               rfl)
        · rw [if_neg hb] at hj hI
          subst hj
          exact ⟨_, ⟨out, rfl, hI, by omega⟩, le_ev [] (by simp only [hm, go_sem, ↓reduceIte, List.take_zero, List.append_nil, Nat.add_zero, Nat.reduceLeDiff])⟩
      · by_cases hb : s.byB = byB
        · rw [if_pos hb] at hj hI
          have hjm : j = manyN s.text.length z := by
            rcases Nat.lt_or_ge j (manyN s.text.length z) with h | h
            · have := (many_lt hz1.1).1 h; omega
            · omega
          have htk : (nextParts z f out s).take j = nextParts z f out s := List.take_of_length_le (by rw [nextParts_len]; omega)
          rw [htk]
          have hl : out.length + j = (out ++ nextParts z f out s).length := by rw [List.length_append, nextParts_len]; omega
          exact ⟨_, ⟨out ++ nextParts z f out s, rfl, hI, by rw [← hl]; omega⟩, le_ev [] (by simp only [hm, hl, go_sem, ↓reduceIte, Nat.reduceLeDiff])⟩
        · rw [if_neg hb] at hj hI
          subst hj
          exact ⟨_, ⟨out, rfl, hI, by omega⟩, le_ev [] (by simp only [hm, go_sem, ↓reduceIte, List.take_zero, List.append_nil, Nat.add_zero, Nat.reduceLeDiff])⟩
    refine ⟨fun hlo => ?_, fun hlo => ?_⟩
    · refine call_flat (hP ▸ s_l31Ssn out s.stream (by omega)) rfl (.cons (Vw.full rfl (by simp)) (.cons (.r _) .nil)) ?_
      simp only [go_sem, ↓reduceIte]
      refine inner _ (by simp [ssnOf, hlo]) fun out' h1 h2 => ?_
      simp only [go_sem, ↓reduceIte]
      rw [wrap64 (by omega) (by omega)]
      exact ⟨(i + 1, out'), ⟨hil, h2, h1⟩, by simp only; omega, Le.refl _⟩
    · refine inner _ (by simp [ssnOf, hlo]) fun out' h1 h2 => ?_
      simp only [go_sem, ↓reduceIte]
      rw [wrap64 (by omega) (by omega)]
      exact ⟨(i + 1, out'), ⟨hil, h2, h1⟩, by simp only; omega, Le.refl _⟩
  · have : i = t.says.length := by omega
    subst this
    rw [List.drop_eq_nil_of_le (Nat.le_refl _)] at hI
    simp only [partsAcc] at hI
    rw [hI]
    exact hx _ _

theorem s_l41Parts (t : Talk) (byB : Bool) (hv : talkB t = true) : Spec Try.prog 76 0 [] [t.ro, .bo byB] (New1 (.sl 0 0 (talkParts t byB).length) 7 ((talkParts t byB).map Data.row)) := by
  refine Spec.new1 (Q := fun r hp _ _ => r = .sl 1 0 (talkParts t byB).length ∧ hget hp 1 = some (.row 7 ((talkParts t byB).map Data.row))) ?_ (fun r hp nx gs h => ⟨1, h.1, h.2⟩) (fun f g h => by simp only [go_sem, h])
  obtain ⟨hsz, hlen, hsays, hta, htb, _, _⟩ := talk_ok hv
  have hz : t.size = (t.size.toNat : Int) := by omega
  refine mk76 rfl fun c hP hm => ?_
  unfold pc76 Talk.ro Talk.av talkParts
  rw [if_pos hv]
  cases byB
  all_goals
    simp only [Talk.tsn, if_true, if_false, Bool.false_eq_true]
    simp only [go_sem, ↓reduceIte]
  · refine loop_l41Parts hP hm t false t.a.tsn _ hv hz hta fun v k => ?_
    simp only [go_sem, ↓reduceIte]
  · refine loop_l41Parts hP hm t true t.b.tsn _ hv hz htb fun v k => ?_
    simp only [go_sem, ↓reduceIte]
end Go.Cap

/- The parts of a talk as the program lays them: one list a message. -/
namespace Go.Cap
set_option linter.unusedVariables false
set_option linter.unusedSimpArgs false

def tpRow (b : Bool) (d : Data) : List RV := .b b :: d.row
def lists (z : Nat) (ta tb : Int) : List Say → List Data → List Data → List (Bool × List Data)
  | [], _, _ => []
  | s :: l, f, g => if s.byB then (true, nextParts z tb g s) :: lists z ta tb l f (g ++ nextParts z tb g s) else (false, nextParts z ta f s) :: lists z ta tb l (f ++ nextParts z ta f s) g
def listRow (x : Bool × List Data) : List RV := [.ro none (x.2.map (tpRow x.1))]
theorem lists_drop {z : Nat} {ta tb : Int} {l : List Say} {i : Nat} (h : i < l.length) (f g : List Data) : lists z ta tb (l.drop i) f g =
    if l[i].byB then (true, nextParts z tb g l[i]) :: lists z ta tb (l.drop (i + 1)) f (g ++ nextParts z tb g l[i]) else (false, nextParts z ta f l[i]) :: lists z ta tb (l.drop (i + 1)) (f ++ nextParts z ta f l[i]) g := by
  rw [List.drop_eq_getElem_cons h]; rfl

/-- The counters of a side's streams. -/
def cnt (f : List Data) : List AV := [.i (ssnIn f 0), .i (ssnIn f 1), .i (ssnIn f 2), .i (ssnIn f 3)]
def cnts (f g : List Data) : List AV := [.i (ssnIn f 0), .i (ssnIn f 1), .i (ssnIn f 2), .i (ssnIn f 3), .i (ssnIn g 0), .i (ssnIn g 1), .i (ssnIn g 2), .i (ssnIn g 3)]
def cntsR (f g : List Data) : List RV := [.n .i64 (ssnIn f 0), .n .i64 (ssnIn f 1), .n .i64 (ssnIn f 2), .n .i64 (ssnIn f 3), .n .i64 (ssnIn g 0), .n .i64 (ssnIn g 1), .n .i64 (ssnIn g 2), .n .i64 (ssnIn g 3)]
theorem cntsR_map (f g : List Data) : cnts f g = (cntsR f g).map .r := rfl
theorem stream4 {x : Int} (h : 0 ≤ x ∧ x < 4) : x = 0 ∨ x = 1 ∨ x = 2 ∨ x = 3 := by omega
theorem cnts_a {f g : List Data} {x : Int} (h : 0 ≤ x ∧ x < 4) : aget (cnts f g) x.toNat = .i (ssnIn f x) := by
  rcases stream4 h with rfl | rfl | rfl | rfl <;> rfl
theorem cnts_b {f g : List Data} {x : Int} (h : 0 ≤ x ∧ x < 4) : aget (cnts f g) (4 + x.toNat) = .i (ssnIn g x) := by
  rcases stream4 h with rfl | rfl | rfl | rfl <;> rfl
theorem ssnIn_next {z : Nat} (hz : 1 ≤ z) (tsn : Int) (f : List Data) (s : Say) (h1 : 1 ≤ s.text.length) (y : Int) : ssnIn (f ++ nextParts z tsn f s) y = ssnIn f y + (if s.loose = false ∧ s.stream = y then 1 else 0) := by
  rw [ssnIn_app]; unfold nextParts; rw [ssnIn_chunks hz _ _ _ h1]
theorem cnts_seta {z : Nat} (hz : 1 ≤ z) {tsn : Int} {f g : List Data} {s : Say} (h1 : 1 ≤ s.text.length) (h : 0 ≤ s.stream ∧ s.stream < 4) (hl : s.loose = false) : (cnts f g).set s.stream.toNat (.i ((ssnIn f s.stream : Int) + 1)) = cnts (f ++ nextParts z tsn f s) g := by
  have e := fun y => ssnIn_next hz tsn f s h1 y
  unfold cnts
  rw [e 0, e 1, e 2, e 3]
  rcases stream4 h with h | h | h | h <;> simp [h, hl]
theorem cnts_setb {z : Nat} (hz : 1 ≤ z) {tsn : Int} {f g : List Data} {s : Say} (h1 : 1 ≤ s.text.length) (h : 0 ≤ s.stream ∧ s.stream < 4) (hl : s.loose = false) : (cnts f g).set (4 + s.stream.toNat) (.i ((ssnIn g s.stream : Int) + 1)) = cnts f (g ++ nextParts z tsn g s) := by
  have e := fun y => ssnIn_next hz tsn g s h1 y
  unfold cnts
  rw [e 0, e 1, e 2, e 3]
  rcases stream4 h with h | h | h | h <;> simp [h, hl]
theorem cnts_loosea {z : Nat} (hz : 1 ≤ z) {tsn : Int} {f g : List Data} {s : Say} (h1 : 1 ≤ s.text.length) (hl : s.loose = true) : cnts (f ++ nextParts z tsn f s) g = cnts f g := by
  have e := fun y => ssnIn_next hz tsn f s h1 y
  unfold cnts
  rw [e 0, e 1, e 2, e 3]; simp [hl]
theorem cnts_looseb {z : Nat} (hz : 1 ≤ z) {tsn : Int} {f g : List Data} {s : Say} (h1 : 1 ≤ s.text.length) (hl : s.loose = true) : cnts f (g ++ nextParts z tsn g s) = cnts f g := by
  have e := fun y => ssnIn_next hz tsn g s h1 y
  unfold cnts
  rw [e 0, e 1, e 2, e 3]; simp [hl]
/-- The row of a part, as the loops reckon it. -/
theorem part_row {z : Nat} (hz : 1 ≤ z) (f : Int) (k : Nat) (ssn : Int) (s : Say) (j : Nat) (E : Int) (hE : E = min (s.text.length : Int) (((j + 1) * z : Nat) : Int)) :
    (part z (l3 f k) ssn s j).row = [.n .i64 (l3 f ((k + j : Nat) : Int)), .n .i64 s.stream, .n .i64 ssn, .b (((j * z : Nat) : Int) == 0), .b (E == s.text.length), .b s.loose, .s ((s.text.take E.toNat).drop ((j * z : Nat) : Int).toNat)] := by
  simp only [part, Data.row, l3_l3]
  have k1 : (decide (j = 0)) = (((j * z : Nat) : Int) == 0) := by
    rw [Bool.eq_iff_iff]; simp only [decide_eq_true_eq, beq_iff_eq]
    constructor
    · rintro rfl; simp
    · intro h
      have : j * z = 0 := by omega
      rcases Nat.mul_eq_zero.1 this with h | h <;> omega
  have k2 : (decide (s.text.length ≤ (j + 1) * z)) = (E == s.text.length) := by
    rw [Bool.eq_iff_iff]; simp only [decide_eq_true_eq, beq_iff_eq]; omega
  have k3 : s.text.take ((j + 1) * z) = s.text.take E.toNat := by
    rcases Nat.lt_or_ge s.text.length ((j + 1) * z) with h | h
    · have : E.toNat = s.text.length := by omega
      rw [this, List.take_of_length_le (by omega), List.take_of_length_le (by omega)]
    · have : E.toNat = (j + 1) * z := by omega
      rw [this]
  rw [k1, k2, k3, Int.toNat_natCast, show ((k : Int) + (j : Int)) = ((k + j : Nat) : Int) by omega]
end Go.Cap

/- Contracts: the program's parts. -/
namespace Go.Cap
open Go Go.Proofs
set_option maxRecDepth 100000
set_option linter.unusedSimpArgs false
set_option linter.unusedVariables false
attribute [local irreducible] Call Run Spec Le

@[go_sem] theorem cnts_len (f g : List Data) : (cnts f g).length = 8 := (rfl)
/-- The inner loop: the parts of one message. -/
theorem loop_partsOf0 {c : Cx} (hP : c.P = Try.prog) (hm : c.m = 0) (t : Talk) (z : Nat) (hz : t.size = z) (hz1 : 1 ≤ z ∧ z ≤ 20) (s : Say) (q1 : 1 ≤ s.text.length) (q2 : s.text.length ≤ 60) (i nout : Nat) (hi : i ≤ 4) (f0 : Int) (hf0 : 0 ≤ f0 ∧ f0 < 65536) (fl : List Data) (hfl : fl.length ≤ 1000)
    (side : Nat) (hside : side < 2) (ts : Int → List RV) (hts : ∀ v, (ts v).length = 2 ∧ aget ((ts v).map .r) side = .i v ∧ (∀ u, ((ts v).map AV.r).set side (.i u) = (ts u).map .r)) (nx3 : List RV) (out : List (List RV)) {n r : St → Prop} {x : Nat → St → Prop}
    (hx : x 2 ⟨[(1, .ptr 0 0 0), (3, .sl 1 0 nout), (4, .ptr 2 0 0), (5, .ptr 3 0 0), (10, .r (.ro none ((nextParts z f0 fl s).map (tpRow s.byB)))), (23, .r (.ro none (t.says.map Say.row))), (24, .i t.says.length), (25, .i i)],
      [(3, .var (nx3.map .r)), (2, .var ((ts (l3 f0 ((fl.length + (nextParts z f0 fl s).length : Nat) : Int))).map .r)), (1, .row 1 out), (0, .var [.i t.fr, .i t.to, .i t.a.tag, .i t.a.window, .i t.a.streams, .i t.a.tsn, .i t.b.tag, .i t.b.window, .i t.b.streams, .i t.b.tsn, .i t.size, .r (.ro none (t.says.map Say.row))])], 4, []⟩) :
    Run c (.lp pc87l0) ⟨[(1, .ptr 0 0 0), (3, .sl 1 0 nout), (4, .ptr 2 0 0), (5, .ptr 3 0 0), (7, .ptr 4 0 0), (8, .i side), (9, .i (ssnOf fl s)), (10, .sl 5 0 0), (11, .i 0), (23, .r (.ro none (t.says.map Say.row))), (24, .i t.says.length), (25, .i i)],
      [(5, .row 8 []), (4, .var [.bo s.byB, .i s.stream, .bo s.loose, .st s.text]), (3, .var (nx3.map .r)), (2, .var ((ts (l3 f0 (fl.length : Int))).map .r)), (1, .row 1 out), (0, .var [.i t.fr, .i t.to, .i t.a.tag, .i t.a.window, .i t.a.streams, .i t.a.tsn, .i t.b.tag, .i t.b.window, .i t.b.streams, .i t.b.tsn, .i t.size, .r (.ro none (t.says.map Say.row))])], 6, []⟩ n x r := by
  have hml := many_le2 (n := s.text.length) hz1.1
  have hnl : (nextParts z f0 fl s).length = manyN s.text.length z := nextParts_len _ _ _ _
  refine run_exit 2 (fun t0 => t0 = ⟨[(1, .ptr 0 0 0), (3, .sl 1 0 nout), (4, .ptr 2 0 0), (5, .ptr 3 0 0), (10, .r (.ro none ((nextParts z f0 fl s).map (tpRow s.byB)))), (23, .r (.ro none (t.says.map Say.row))), (24, .i t.says.length), (25, .i i)],
      [(3, .var (nx3.map .r)), (2, .var ((ts (l3 f0 ((fl.length + (nextParts z f0 fl s).length : Nat) : Int))).map .r)), (1, .row 1 out), (0, .var [.i t.fr, .i t.to, .i t.a.tag, .i t.a.window, .i t.a.streams, .i t.a.tsn, .i t.b.tag, .i t.b.window, .i t.b.streams, .i t.b.tsn, .i t.size, .r (.ro none (t.says.map Say.row))])], 4, []⟩) ?_ (fun t0 h => by rw [h]; exact hx)
  refine lp_wpc (α := Nat) (fun j => ⟨[(1, .ptr 0 0 0), (3, .sl 1 0 nout), (4, .ptr 2 0 0), (5, .ptr 3 0 0), (7, .ptr 4 0 0), (8, .i side), (9, .i (ssnOf fl s)), (10, .sl 5 0 j), (11, .i (j * z : Nat)), (23, .r (.ro none (t.says.map Say.row))), (24, .i t.says.length), (25, .i i)],
      [(5, .row 8 (((nextParts z f0 fl s).take j).map (tpRow s.byB))), (4, .var [.bo s.byB, .i s.stream, .bo s.loose, .st s.text]), (3, .var (nx3.map .r)), (2, .var ((ts (l3 f0 ((fl.length + j : Nat) : Int))).map .r)), (1, .row 1 out), (0, .var [.i t.fr, .i t.to, .i t.a.tag, .i t.a.window, .i t.a.streams, .i t.a.tsn, .i t.b.tag, .i t.b.window, .i t.b.streams, .i t.b.tsn, .i t.size, .r (.ro none (t.says.map Say.row))])], 6, []⟩)
    (fun j => j ≤ manyN s.text.length z) (fun j => manyN s.text.length z - j) 0 (Nat.zero_le _) (le_eq (by simp)) ?_
  intro j hj
  obtain ⟨t1, t2, t3⟩ := hts (l3 f0 ((fl.length + j : Nat) : Int))
  unfold pc87l0
  simp only [t1, t2, go_sem, ↓reduceIte, Int.toNat_natCast]
  refine ⟨fun hlt2 => ?_, fun hge2 => ?_⟩
  · have hjm : j < manyN s.text.length z := (many_lt hz1.1).2 (by omega)
    have hadd : (j + 1) * z = j * z + z := by rw [Nat.add_mul, Nat.one_mul]
    have e1 : IntKind.i64.wrap (((j * z : Nat) : Int) + t.size) = (((j + 1) * z : Nat) : Int) := by rw [wrap64 (by omega) (by omega)]; omega
    rw [e1]
    generalize hE : (if (s.text.length : Int) < (((j + 1) * z : Nat) : Int) then (s.text.length : Int) else (((j + 1) * z : Nat) : Int)) = E
    have hE1 : E = min (s.text.length : Int) (((j + 1) * z : Nat) : Int) := by rw [← hE]; split <;> omega
    have hpart := part_row hz1.1 f0 fl.length (ssnOf fl s) s j E hE1
    simp only [Int.toNat_natCast] at hpart
    have hlk : ((nextParts z f0 fl s).take j).length = j := by rw [List.length_take, hnl]; omega
    have hstep : ((nextParts z f0 fl s).take j).map (tpRow s.byB) ++ [.b s.byB :: (part z (l3 f0 fl.length) (ssnOf fl s) s j).row] = ((nextParts z f0 fl s).take (j + 1)).map (tpRow s.byB) := by
      rw [show (nextParts z f0 fl s).take (j + 1) = (nextParts z f0 fl s).take j ++ [part z (l3 f0 fl.length) (ssnOf fl s) s j] from take_chunks hjm]
      simp [tpRow]
    rw [hpart] at hstep
    have htk2 : List.take j (((nextParts z f0 fl s).take j).map (tpRow s.byB)) = ((nextParts z f0 fl s).take j).map (tpRow s.byB) := List.take_of_length_le (by rw [List.length_map, hlk]; omega)
    simp only [hm, t1, t2, go_sem, ↓reduceIte]
    refine ⟨⟨by omega, by omega⟩, by omega, ⟨by omega, by omega, by omega⟩, ⟨by rw [hlk]; omega, by omega⟩, ⟨by omega, by omega⟩, by omega, ?_⟩
    refine call_pure (hP ▸ s_SerialAdd (l3 f0 ((fl.length + j : Nat) : Int)) 1) rfl rfl ?_
    rw [serial_l3, if_pos rfl, l3_l3, htk2, hstep]
    simp only [hm, t1, t2, t3, go_sem, ↓reduceIte, Int.toNat_natCast]
    rw [e1]
    refine ⟨⟨by omega, by omega⟩, by omega, j + 1, hjm, by omega, le_ev [] ?_⟩
    simp only [hm, go_sem, ↓reduceIte]
    rfl
  · have hjm : j = manyN s.text.length z := by
      rcases Nat.lt_or_ge j (manyN s.text.length z) with h | h
      · have := (many_lt hz1.1).1 h; omega
      · omega
    have htk : (nextParts z f0 fl s).take j = nextParts z f0 fl s := List.take_of_length_le (by rw [hnl]; omega)
    rw [htk]
    refine ⟨_, rfl, Le.trans (le_frz 5 rfl ?_ ?_) (le_ev [] ?_)⟩
    · simp only [hm, go_sem, ↓reduceIte, List.length_map, hnl]
      omega
    · simp only [hm, go_sem, ↓reduceIte]
    · simp only [hm, go_sem, ↓reduceIte]
      exact ⟨by rw [List.take_of_length_le (by rw [List.length_map, hnl]; omega)], by rw [hnl, hjm]⟩

theorem loop_partsOf1 {c : Cx} (hP : c.P = Try.prog) (hm : c.m = 0) (t : Talk) (z : Nat) (hv : talkB t = true) (hz : t.size = z) {n r : St → Prop} {x : Nat → St → Prop}
    (hx : x 0 ⟨[(3, .sl 1 0 (lists z t.a.tsn t.b.tsn t.says [] []).length)], [(1, .row 1 ((lists z t.a.tsn t.b.tsn t.says [] []).map listRow))], 2, []⟩) :
    Run c (.lp pc87l1) ⟨[(1, .ptr 0 0 0), (3, .sl 1 0 0), (4, .ptr 2 0 0), (5, .ptr 3 0 0), (23, .r (.ro none (t.says.map Say.row))), (24, .i t.says.length), (25, .i 0)],
      [(3, .var [.i 0, .i 0, .i 0, .i 0, .i 0, .i 0, .i 0, .i 0]), (2, .var [.i t.a.tsn, .i t.b.tsn]), (1, .row 1 []), (0, .var [.i t.fr, .i t.to, .i t.a.tag, .i t.a.window, .i t.a.streams, .i t.a.tsn, .i t.b.tag, .i t.b.window, .i t.b.streams, .i t.b.tsn, .i t.size, .r (.ro none (t.says.map Say.row))])], 4, []⟩ n x r := by
  obtain ⟨hsz, hlen, hsays, hta, htb, hsa, hsb⟩ := talk_ok hv
  have hz1 : 1 ≤ z ∧ z ≤ 20 := by omega
  refine run_exit 0 (fun t0 => t0 = ⟨[(3, .sl 1 0 (lists z t.a.tsn t.b.tsn t.says [] []).length)], [(1, .row 1 ((lists z t.a.tsn t.b.tsn t.says [] []).map listRow))], 2, []⟩) ?_ (fun t0 h => by rw [h]; exact hx)
  refine lp_wpc (α := Nat × List (Bool × List Data) × List Data × List Data) (fun y => ⟨[(1, .ptr 0 0 0), (3, .sl 1 0 y.2.1.length), (4, .ptr 2 0 0), (5, .ptr 3 0 0), (23, .r (.ro none (t.says.map Say.row))), (24, .i t.says.length), (25, .i y.1)],
      [(3, .var (cnts y.2.2.1 y.2.2.2)), (2, .var [.i (l3 t.a.tsn (y.2.2.1.length : Int)), .i (l3 t.b.tsn (y.2.2.2.length : Int))]), (1, .row 1 (y.2.1.map listRow)), (0, .var [.i t.fr, .i t.to, .i t.a.tag, .i t.a.window, .i t.a.streams, .i t.a.tsn, .i t.b.tag, .i t.b.window, .i t.b.streams, .i t.b.tsn, .i t.size, .r (.ro none (t.says.map Say.row))])], 4, []⟩)
    (fun y => y.1 ≤ t.says.length ∧ y.2.1.length = y.1 ∧ y.2.2.1.length ≤ 60 * y.1 ∧ y.2.2.2.length ≤ 60 * y.1 ∧ y.2.1 ++ lists z t.a.tsn t.b.tsn (t.says.drop y.1) y.2.2.1 y.2.2.2 = lists z t.a.tsn t.b.tsn t.says [] []) (fun y => t.says.length - y.1) (0, [], [], [])
    ⟨Nat.zero_le _, rfl, Nat.zero_le _, Nat.zero_le _, rfl⟩ (le_eq (by simp [cnts, ssnIn, l3_zero hta, l3_zero htb])) ?_
  rintro ⟨i, acc, f, g⟩ ⟨hi, ha, hf, hg, hI⟩
  simp only at hi ha hf hg hI
  unfold pc87l1
  simp only [go_sem, ↓reduceIte]
  refine ⟨fun hlt => ?_, fun hge => ?_⟩
  · have hil : i < t.says.length := by omega
    rw [lists_drop hil] at hI
    obtain ⟨q1, q2, q3, q4⟩ := hsays _ (List.getElem_mem hil)
    simp only [Int.toNat_natCast, getD_map hil, Say.row, go_sem, ↓reduceIte]
    generalize t.says[i] = s at hI q1 q2 q3 q4
    have hml := many_le2 (n := s.text.length) hz1.1
    refine ⟨⟨by omega, by omega⟩, ?_⟩
    obtain ⟨byB, stream, loose, text⟩ := s
    simp only at hI q1 q2 q3 q4 hml
    cases byB
    · simp only [Bool.false_eq_true, if_false, if_true] at hI q4
      have h4 : 0 ≤ stream ∧ stream < 4 := by omega
      cases loose
      · simp only [cnts_a h4, go_sem, ↓reduceIte]
        have hle := ssnIn_le f stream
        rw [wrap64 (x := (ssnIn f stream : Int) + 1) (by omega) (by omega)]
        have hset := cnts_seta (f := f) (g := g) (s := ⟨false, stream, false, text⟩) hz1.1 (tsn := t.a.tsn) q1 h4 rfl
        simp only at hset
        rw [hset, cntsR_map]
        refine ⟨h4, by omega, h4, by omega, h4, by omega, ?_⟩
        refine loop_partsOf0 hP hm t z hz hz1 ⟨false, stream, false, text⟩ q1 q2 i acc.length (by omega) t.a.tsn hta f (by omega) 0 (by decide) (fun v => [.n .i64 v, .n .i64 (l3 t.b.tsn (g.length : Int))]) (fun v => ⟨rfl, rfl, fun u => rfl⟩) _ _ ?_
        rw [← cntsR_map]
        simp only [hm, go_sem, ↓reduceIte]
        have hrow : List.take acc.length (acc.map listRow) ++ [[.ro none ((nextParts z t.a.tsn f ⟨false, stream, false, text⟩).map (tpRow false))]] = (acc ++ [(false, nextParts z t.a.tsn f ⟨false, stream, false, text⟩)]).map listRow := by
          rw [List.take_of_length_le (by simp)]; simp [listRow]
        rw [hrow, wrap64 (x := (i : Int) + 1) (by omega) (by omega)]
        refine ⟨by omega, (i + 1, acc ++ [(false, nextParts z t.a.tsn f ⟨false, stream, false, text⟩)], (f ++ nextParts z t.a.tsn f ⟨false, stream, false, text⟩), g), ⟨hil, by simp only; rw [List.length_append]; simp; omega, by simp only; rw [List.length_append, nextParts_len]; simp only; omega, by simp only; omega, by simp only; rw [List.append_assoc]; exact hI⟩, by simp only; omega, le_ev [] ?_⟩
        simp only [cntsR_map, hm, go_sem, ↓reduceIte, Nat.reduceLeDiff]
        rfl
      · simp only [go_sem, ↓reduceIte]
        rw [← cnts_loosea (f := f) (g := g) (s := ⟨false, stream, true, text⟩) hz1.1 (tsn := t.a.tsn) q1 rfl, cntsR_map]
        refine loop_partsOf0 hP hm t z hz hz1 ⟨false, stream, true, text⟩ q1 q2 i acc.length (by omega) t.a.tsn hta f (by omega) 0 (by decide) (fun v => [.n .i64 v, .n .i64 (l3 t.b.tsn (g.length : Int))]) (fun v => ⟨rfl, rfl, fun u => rfl⟩) _ _ ?_
        rw [← cntsR_map]
        simp only [hm, go_sem, ↓reduceIte]
        have hrow : List.take acc.length (acc.map listRow) ++ [[.ro none ((nextParts z t.a.tsn f ⟨false, stream, true, text⟩).map (tpRow false))]] = (acc ++ [(false, nextParts z t.a.tsn f ⟨false, stream, true, text⟩)]).map listRow := by
          rw [List.take_of_length_le (by simp)]; simp [listRow]
        rw [hrow, wrap64 (x := (i : Int) + 1) (by omega) (by omega)]
        refine ⟨by omega, (i + 1, acc ++ [(false, nextParts z t.a.tsn f ⟨false, stream, true, text⟩)], (f ++ nextParts z t.a.tsn f ⟨false, stream, true, text⟩), g), ⟨hil, by simp only; rw [List.length_append]; simp; omega, by simp only; rw [List.length_append, nextParts_len]; simp only; omega, by simp only; omega, by simp only; rw [List.append_assoc]; exact hI⟩, by simp only; omega, le_ev [] ?_⟩
        simp only [cntsR_map, hm, go_sem, ↓reduceIte, Nat.reduceLeDiff]
        rfl
    · simp only [Bool.false_eq_true, if_false, if_true] at hI q4
      have h4 : 0 ≤ stream ∧ stream < 4 := by omega
      cases loose
      · simp only [cnts_b h4, go_sem, ↓reduceIte]
        have hle := ssnIn_le g stream
        rw [wrap64 (x := (ssnIn g stream : Int) + 1) (by omega) (by omega)]
        have hset := cnts_setb (f := f) (g := g) (s := ⟨true, stream, false, text⟩) hz1.1 (tsn := t.b.tsn) q1 h4 rfl
        simp only at hset
        rw [hset, cntsR_map]
        refine ⟨h4, by omega, h4, by omega, h4, by omega, ?_⟩
        refine loop_partsOf0 hP hm t z hz hz1 ⟨true, stream, false, text⟩ q1 q2 i acc.length (by omega) t.b.tsn htb g (by omega) 1 (by decide) (fun v => [.n .i64 (l3 t.a.tsn (f.length : Int)), .n .i64 v]) (fun v => ⟨rfl, rfl, fun u => rfl⟩) _ _ ?_
        rw [← cntsR_map]
        simp only [hm, go_sem, ↓reduceIte]
        have hrow : List.take acc.length (acc.map listRow) ++ [[.ro none ((nextParts z t.b.tsn g ⟨true, stream, false, text⟩).map (tpRow true))]] = (acc ++ [(true, nextParts z t.b.tsn g ⟨true, stream, false, text⟩)]).map listRow := by
          rw [List.take_of_length_le (by simp)]; simp [listRow]
        rw [hrow, wrap64 (x := (i : Int) + 1) (by omega) (by omega)]
        refine ⟨by omega, (i + 1, acc ++ [(true, nextParts z t.b.tsn g ⟨true, stream, false, text⟩)], f, (g ++ nextParts z t.b.tsn g ⟨true, stream, false, text⟩)), ⟨hil, by simp only; rw [List.length_append]; simp; omega, by simp only; omega, by simp only; rw [List.length_append, nextParts_len]; simp only; omega, by simp only; rw [List.append_assoc]; exact hI⟩, by simp only; omega, le_ev [] ?_⟩
        simp only [cntsR_map, hm, go_sem, ↓reduceIte, Nat.reduceLeDiff]
        rfl
      · simp only [go_sem, ↓reduceIte]
        rw [← cnts_looseb (f := f) (g := g) (s := ⟨true, stream, true, text⟩) hz1.1 (tsn := t.b.tsn) q1 rfl, cntsR_map]
        refine loop_partsOf0 hP hm t z hz hz1 ⟨true, stream, true, text⟩ q1 q2 i acc.length (by omega) t.b.tsn htb g (by omega) 1 (by decide) (fun v => [.n .i64 (l3 t.a.tsn (f.length : Int)), .n .i64 v]) (fun v => ⟨rfl, rfl, fun u => rfl⟩) _ _ ?_
        rw [← cntsR_map]
        simp only [hm, go_sem, ↓reduceIte]
        have hrow : List.take acc.length (acc.map listRow) ++ [[.ro none ((nextParts z t.b.tsn g ⟨true, stream, true, text⟩).map (tpRow true))]] = (acc ++ [(true, nextParts z t.b.tsn g ⟨true, stream, true, text⟩)]).map listRow := by
          rw [List.take_of_length_le (by simp)]; simp [listRow]
        rw [hrow, wrap64 (x := (i : Int) + 1) (by omega) (by omega)]
        refine ⟨by omega, (i + 1, acc ++ [(true, nextParts z t.b.tsn g ⟨true, stream, true, text⟩)], f, (g ++ nextParts z t.b.tsn g ⟨true, stream, true, text⟩)), ⟨hil, by simp only; rw [List.length_append]; simp; omega, by simp only; omega, by simp only; rw [List.length_append, nextParts_len]; simp only; omega, by simp only; rw [List.append_assoc]; exact hI⟩, by simp only; omega, le_ev [] ?_⟩
        simp only [cntsR_map, hm, go_sem, ↓reduceIte, Nat.reduceLeDiff]
        rfl
  · have : i = t.says.length := by omega
    subst this
    rw [List.drop_eq_nil_of_le (Nat.le_refl _)] at hI
    simp only [lists, List.append_nil] at hI
    rw [← hI]
    exact ⟨_, rfl, le_ev [] (by simp only [hm, go_sem, ↓reduceIte, Nat.reduceLeDiff])⟩
def talkLists (t : Talk) : List (Bool × List Data) := lists t.size.toNat t.a.tsn t.b.tsn t.says [] []
theorem s_partsOf (t : Talk) (hv : talkB t = true) : Spec Try.prog 87 0 [] [t.ro] (New1 (.sl 0 0 (talkLists t).length) 1 ((talkLists t).map listRow)) := by
  refine Spec.new1 (Q := fun r hp _ _ => r = .sl 1 0 (talkLists t).length ∧ hget hp 1 = some (.row 1 ((talkLists t).map listRow))) ?_ (fun r hp nx gs h => ⟨1, h.1, h.2⟩) (fun f g h => by simp only [go_sem, h])
  obtain ⟨hsz, hlen, hsays, hta, htb, _, _⟩ := talk_ok hv
  have hz : t.size = (t.size.toNat : Int) := by omega
  refine mk87 rfl fun c hP hm => ?_
  unfold pc87 Talk.ro Talk.av talkLists
  simp only [go_sem, ↓reduceIte]
  intro _
  refine loop_partsOf1 hP hm t _ hv hz ?_
  simp only [hm, go_sem, ↓reduceIte]
end Go.Cap

/- Contracts: the reader of a code, and small draws. -/
namespace Go.Cap
open Go Go.Proofs
set_option maxRecDepth 100000
set_option linter.unusedSimpArgs false
set_option linter.unusedVariables false
attribute [local irreducible] Call Run Spec Le

def byteRow (b : UInt8) : List RV := [.n .u8 b.toNat]
def rdB (code : List UInt8) (p : Int) : Blk := .var [.r (.ro none (code.map byteRow)), .i p]

@[go_sem] theorem renB_rd (f : Nat → Nat) (code : List UInt8) (p : Int) : renB f (rdB code p) = rdB code p := (rfl)
@[go_sem] theorem killH_rd (b j : Nat) (code : List UInt8) (p : Int) (l : List (Nat × Blk)) : killH b ((j, rdB code p) :: l) = (j, rdB code p) :: killH b l := (rfl)

theorem s_l6Open (code : List UInt8) : Spec Try.prog 43 0 [] [.r (.ro none (code.map byteRow))] (NewV (rdB (code.take 2000) 0)) := by
  refine mk43 rfl fun c hP hm => ?_
  unfold pc43 NewV rdB
  simp only [go_sem, ↓reduceIte]
  intro _
  refine ⟨fun h => ⟨⟨?_, ?_⟩, ?_⟩, fun h => ?_⟩
  · omega
  · intro r hr
    obtain ⟨b, _, rfl⟩ := List.mem_map.1 hr
    rfl
  · simp [List.map_take]
  · rw [List.take_of_length_le (by omega)]

theorem tmod_range {a n : Int} (h0 : 0 ≤ a) (h : 0 < n) : 0 ≤ a.tmod n ∧ a.tmod n < n := by
  rw [Int.tmod_eq_emod_of_nonneg h0]
  exact ⟨Int.emod_nonneg _ (by omega), Int.emod_lt_of_pos _ h⟩
/-- What a number drawn below 'n' may be. -/
def Below (n v : Int) : Prop := 0 ≤ v ∧ (v < n ∨ v = 0)
theorem s_pick (code : List UInt8) (p n : Int) (hp : 0 ≤ p ∧ p ≤ 1000000) (hc : code.length ≤ 2000) : Spec Try.prog 45 1 [(0, rdB code p)] [.ptr 0 0 0, .i n] (Named fun r B => B = rdB code (p + 1) ∧ ∃ v, r = .i v ∧ Below n v) := by
  refine Spec.named (mk45 rfl fun c hP hm => ?_)
  unfold pc45 rdB
  simp only [go_sem, ↓reduceIte]
  rw [wrap64 (x := p + 1) (by omega) (by omega)]
  have e : IntKind.i64.wrap (p + 1 - 1) = p := by rw [wrap64 (by omega) (by omega)]; omega
  rw [e]
  have hat : ∀ j : Int, 0 ≤ j → j < code.length → ∃ b : UInt8, (code.map byteRow).getD j.toNat [] = [.n .u8 b.toNat] := fun j h0 h1 => by
    have hj : j.toNat < code.length := by omega
    exact ⟨code[j.toNat], by rw [getD_map hj]; rfl⟩
  have hz : ∀ x : Int, x = 0 → Below n x := fun x hx => ⟨by omega, .inr hx⟩
  have ht : ∀ x : Int, 0 ≤ x → 1 ≤ n → Below n (x.tmod n) := fun x h0 h1 => ⟨(tmod_range h0 (by omega)).1, .inl (tmod_range h0 (by omega)).2⟩
  refine ⟨fun hn => ?_, fun hn => ⟨_, rfl, rfl, rfl, _, rfl, hz _ rfl⟩⟩
  intro _
  refine ⟨fun h0 => ⟨_, rfl, rfl, rfl, _, rfl, hz _ rfl⟩, fun h0 => ?_⟩
  intro _
  refine ⟨fun hlt => ?_, fun hge => ?_⟩
  · obtain ⟨b, hb⟩ := hat p hp.1 hlt
    simp only [hb, go_sem, ↓reduceIte]
    have hb2 := b.toNat_lt
    rw [wrap64 (by omega) (by omega)]
    exact ⟨⟨hp.1, hlt⟩, by omega, _, rfl, rfl, rfl, _, rfl, ht _ (by omega) hn⟩
  · intro _
    have hl : (0 : Int) < code.length := by omega
    obtain ⟨k1, k2⟩ := tmod_range hp.1 hl
    obtain ⟨b, hb⟩ := hat _ k1 k2
    have e7 : IntKind.i64.wrap (IntKind.i64.wrap (p * 7) + 3) = p * 7 + 3 := by
      rw [wrap64 (x := p * 7) (by omega) (by omega), wrap64 (by omega) (by omega)]
    obtain ⟨k3, k4⟩ := tmod_range (a := p * 7 + 3) (by omega) hl
    obtain ⟨d, hd⟩ := hat _ k3 k4
    simp only [hb, e7, hd, go_sem, ↓reduceIte]
    have hb2 := b.toNat_lt
    have hd2 := d.toNat_lt
    have hq : 0 ≤ p.tdiv code.length ∧ p.tdiv code.length ≤ p := by
      rw [Int.tdiv_eq_ediv_of_nonneg hp.1]
      exact ⟨Int.ediv_nonneg hp.1 (by omega), Int.ediv_le_self _ hp.1⟩
    rw [wrap64 (x := (b.toNat : Int)) (by omega) (by omega), wrap64 (x := (d.toNat : Int)) (by omega) (by omega), wrap64 (x := (b.toNat : Int) * 131) (by omega) (by omega), wrap64 (x := (d.toNat : Int) * 1117) (by omega) (by omega),
      wrap64 (x := (b.toNat : Int) * 131 + _) (by omega) (by omega), wrap64 (x := p * 29) (by omega) (by omega), wrap64 (x := (b.toNat : Int) * 131 + (d.toNat : Int) * 1117 + _) (by omega) (by omega), wrap64 (x := p.tdiv code.length) (by omega) (by omega),
      wrap64 (x := p.tdiv code.length * 53) (by omega) (by omega), wrap64 (x := (b.toNat : Int) * 131 + (d.toNat : Int) * 1117 + p * 29 + _) (by omega) (by omega)]
    generalize hx : (b.toNat : Int) * 131 + (d.toNat : Int) * 1117 + p * 29 + p.tdiv code.length * 53 = x
    have hx0 : 0 ≤ x ∧ x < 1000000000 := by omega
    have hx6 : 0 ≤ x.tdiv 64 ∧ x.tdiv 64 ≤ x := by
      rw [Int.tdiv_eq_ediv_of_nonneg hx0.1]; omega
    rw [wrap64 (x := x.tdiv 64) (by omega) (by omega)]
    have hxx := bitXor_nn (a := x) (b := x.tdiv 64) (by omega) (by omega)
    exact ⟨h0, ⟨k1, k2⟩, fun _ => ⟨h0, ⟨k3, k4⟩, fun _ => ⟨h0, by omega, _, rfl, rfl, rfl, _, rfl, ht _ hxx.1 hn⟩⟩⟩
theorem c_pick {c : Cx} (hP : c.P = Try.prog) {code : List UInt8} {p n : Int} {s : St} {K : AV → St → Prop} {b : Nat} (hb : hget s.hp b = some (rdB code p)) (hp : 0 ≤ p ∧ p ≤ 1000000) (hc : code.length ≤ 2000)
    (h : ∀ v, Below n v → K (.i v) ⟨s.sl, (b, rdB code (p + 1)) :: hdel s.hp b, s.nx, s.gs⟩) : Call c 45 [.ptr b 0 0, .i n] s K :=
  call_named b (hP ▸ s_pick code p n hp hc) hb rfl rfl (fun r B ⟨h1, v, h2, h3⟩ => by subst h1; subst h2; exact ⟨rfl, rfl⟩) fun r B ⟨h1, v, h2, h3⟩ => by subst h1; subst h2; exact h v h3

/-- A number between bounds, behind some draws. -/
def Draw (code : List UInt8) (p : Int) (k : Int) (lo hi : Int) (r : AV) (B : Blk) : Prop := ∃ v p', r = .i v ∧ B = rdB code p' ∧ p ≤ p' ∧ p' ≤ p + k ∧ lo ≤ v ∧ v ≤ hi
theorem c_draw {c : Cx} {f : Nat} {code : List UInt8} {p k lo hi : Int} {s : St} {K : AV → St → Prop} {b : Nat} (hs : Spec c.P f 1 [(0, rdB code p)] [.ptr 0 0 0] (Named (Draw code p k lo hi))) (hb : hget s.hp b = some (rdB code p))
    (h : ∀ v p', p ≤ p' → p' ≤ p + k → lo ≤ v → v ≤ hi → K (.i v) ⟨s.sl, (b, rdB code p') :: hdel s.hp b, s.nx, s.gs⟩) : Call c f [.ptr b 0 0] s K :=
  call_named b hs hb rfl rfl (fun r B ⟨v, p', h1, h2, _⟩ => by subst h1; subst h2; exact ⟨rfl, rfl⟩) fun r B ⟨v, p', h1, h2, h3, h4, h5, h6⟩ => by subst h1; subst h2; exact h v p' h3 h4 h5 h6
theorem s_l91Word (code : List UInt8) (p : Int) (hp : 0 ≤ p ∧ p ≤ 999990) (hc : code.length ≤ 2000) : Spec Try.prog 95 1 [(0, rdB code p)] [.ptr 0 0 0] (Named (Draw code p 3 (-1) 65536)) := by
  refine Spec.named (mk95 rfl fun c hP hm => ?_)
  unfold pc95
  simp only [go_sem, ↓reduceIte]
  have fin : ∀ (v p' : Int), p ≤ p' → p' ≤ p + 3 → -1 ≤ v → v ≤ 65536 → ∃ B', some (rdB code p') = some B' ∧ plainBlk B' = true ∧ Draw code p 3 (-1) 65536 (.i v) B' := fun v p' h1 h2 h3 h4 => ⟨_, rfl, rfl, v, p', rfl, rfl, h1, h2, h3, h4⟩
  refine c_pick hP (by rfl) (by omega) hc fun v hv => ?_
  simp only [go_sem, ↓reduceIte]
  refine ⟨fun _ => ?_, fun _ => ?_⟩
  · refine c_pick hP (by rfl) (by omega) hc fun u hu => ?_
    have hu' : u = 0 ∨ u = 1 ∨ u = 2 ∨ u = 3 ∨ u = 4 ∨ u = 5 := by unfold Below at hu; omega
    rcases hu' with rfl | rfl | rfl | rfl | rfl | rfl
    all_goals
      simp only [go_sem, ↓reduceIte]
      exact fin _ _ (by omega) (by omega) (by omega) (by omega)
  · repeat' first | refine And.intro ?_ ?_ | intro _ | (refine c_pick hP (by rfl) (by omega) hc fun u hu => ?_; simp only [go_sem, ↓reduceIte])
    all_goals
      unfold Below at *
      try simp (disch := omega) only [wrap64]
      exact fin _ _ (by omega) (by omega) (by omega) (by omega)
theorem s_l91Good (code : List UInt8) (p : Int) (hp : 0 ≤ p ∧ p ≤ 999990) (hc : code.length ≤ 2000) : Spec Try.prog 147 1 [(0, rdB code p)] [.ptr 0 0 0] (Named (Draw code p 3 0 65535)) := by
  refine Spec.named (mk147 rfl fun c hP hm => ?_)
  unfold pc147
  simp only [go_sem, ↓reduceIte]
  refine c_draw (hP ▸ s_l91Word code p hp hc) rfl fun v p' h1 h2 h3 h4 => ?_
  simp only [go_sem, ↓reduceIte]
  refine ⟨_, rfl, rfl, _, p', rfl, rfl, h1, h2, ?_, ?_⟩ <;> (repeat' split) <;> omega
theorem s_l91Long (code : List UInt8) (p : Int) (hp : 0 ≤ p ∧ p ≤ 999980) (hc : code.length ≤ 2000) : Spec Try.prog 149 1 [(0, rdB code p)] [.ptr 0 0 0] (Named (Draw code p 7 (-1) 4294967296)) := by
  refine Spec.named (mk149 rfl fun c hP hm => ?_)
  unfold pc149
  simp only [go_sem, ↓reduceIte]
  have fin : ∀ (v p' : Int), p ≤ p' → p' ≤ p + 7 → -1 ≤ v → v ≤ 4294967296 → ∃ B', some (rdB code p') = some B' ∧ plainBlk B' = true ∧ Draw code p 7 (-1) 4294967296 (.i v) B' := fun v p' h1 h2 h3 h4 => ⟨_, rfl, rfl, v, p', rfl, rfl, h1, h2, h3, h4⟩
  refine c_pick hP (by rfl) (by omega) hc fun v hv => ?_
  simp only [go_sem, ↓reduceIte]
  refine ⟨fun _ => ?_, fun _ => ?_⟩
  · refine c_pick hP (by rfl) (by omega) hc fun u hu => ?_
    have hu' : u = 0 ∨ u = 1 ∨ u = 2 ∨ u = 3 := by unfold Below at hu; omega
    rcases hu' with rfl | rfl | rfl | rfl
    all_goals
      simp only [go_sem, ↓reduceIte]
      exact fin _ _ (by omega) (by omega) (by omega) (by omega)
  · refine c_draw (hP ▸ s_l91Good code (p + 1) (by omega) hc) rfl fun v p' h1 h2 h3 h4 => ?_
    simp only [go_sem, ↓reduceIte]
    refine c_draw (hP ▸ s_l91Good code p' (by omega) hc) rfl fun u p2 g1 g2 g3 g4 => ?_
    simp only [go_sem, ↓reduceIte]
    rw [wrap64 (x := 65536 * v) (by omega) (by omega), wrap64 (by omega) (by omega)]
    exact fin _ _ (by omega) (by omega) (by omega) (by omega)

/-- An init behind some draws. -/
def DrawI (code : List UInt8) (p : Int) (k : Int) (r : AV) (B : Blk) : Prop := ∃ x : Init, ∃ p', r = x.av ∧ B = rdB code p' ∧ p ≤ p' ∧ p' ≤ p + k
theorem s_l91Init (code : List UInt8) (p : Int) (hp : 0 ≤ p ∧ p ≤ 999900) (hc : code.length ≤ 2000) : Spec Try.prog 96 1 [(0, rdB code p)] [.ptr 0 0 0] (Named (DrawI code p 20)) := by
  refine Spec.named (mk96 rfl fun c hP hm => ?_)
  unfold pc96
  simp only [go_sem, ↓reduceIte]
  have fin : ∀ (a b d e p' : Int), p ≤ p' → p' ≤ p + 20 → ∃ B', some (rdB code p') = some B' ∧ plainBlk B' = true ∧ DrawI code p 20 (.agg [.i a, .i b, .i d, .i e]) B' := fun a b d e p' h1 h2 => ⟨_, rfl, rfl, ⟨a, b, d, e⟩, p', rfl, rfl, h1, h2⟩
  refine c_pick hP (by rfl) (by omega) hc fun v hv => ?_
  simp only [go_sem, ↓reduceIte]
  refine c_pick hP (by rfl) (by omega) hc fun v2 hv2 => ?_
  simp only [go_sem, ↓reduceIte]
  refine c_draw (hP ▸ s_l91Good code (p + 1 + 1) (by omega) hc) rfl fun v3 p3 h1 h2 h3 h4 => ?_
  simp only [go_sem, ↓reduceIte]
  refine c_pick hP (by rfl) (by omega) hc fun v4 hv4 => ?_
  simp only [go_sem, ↓reduceIte]
  refine ⟨fun _ => ?_, fun _ => ⟨fun _ => ?_, fun _ => ⟨fun _ => ?_, fun _ => ⟨fun _ => ?_, fun _ => ?_⟩⟩⟩⟩
  · refine c_draw (hP ▸ s_l91Long code (p3 + 1) (by omega) hc) rfl fun v5 p5 g1 g2 g3 g4 => ?_
    simp only [go_sem, ↓reduceIte]
    exact fin _ _ _ _ _ (by omega) (by omega)
  · refine c_draw (hP ▸ s_l91Word code (p3 + 1) (by omega) hc) rfl fun v5 p5 g1 g2 g3 g4 => ?_
    simp only [go_sem, ↓reduceIte]
    exact fin _ _ _ _ _ (by omega) (by omega)
  · refine c_pick hP (by rfl) (by omega) hc fun v5 hv5 => ?_
    simp only [go_sem, ↓reduceIte]
    exact fin _ _ _ _ _ (by omega) (by omega)
  · refine c_draw (hP ▸ s_l91Word code (p3 + 1) (by omega) hc) rfl fun v5 p5 g1 g2 g3 g4 => ?_
    simp only [go_sem, ↓reduceIte]
    exact fin _ _ _ _ _ (by omega) (by omega)
  · exact fin _ _ _ _ _ (by omega) (by omega)

theorem s_l6Many (n : Int) (hn : n ≤ 64) : Spec Try.prog 97 0 [] [.st [119], .i n] (fun r _ _ _ => ∃ s, r = .st s ∧ s.length ≤ 1000) := by
  refine mk97 rfl fun c hP hm => ?_
  unfold pc97
  simp only [go_sem, ↓reduceIte]
  refine lp_wpc (α := List UInt8 × Int × List UInt8) (fun y => ⟨[(0, .st y.1), (1, .i y.2.1), (5, .st y.2.2)], [], 0, []⟩) (fun y => ((y.1.length : Int) * (if 0 < y.2.1 then y.2.1 else 0) ≤ 64 ∧ 1 ≤ y.1.length ∧ y.1.length ≤ 128) ∧ (y.2.2.length : Int) + (y.1.length : Int) * (if 0 < y.2.1 then y.2.1 else 0) ≤ 64) (fun y => y.2.1.toNat) ([119], n, [])
    ?_ (Le.refl _) ?_
  · simp; split <;> omega
  · rintro ⟨s, k, o⟩ ⟨⟨h1, h2, h3⟩, h4⟩
    simp only at h1 h2 h3 h4
    unfold pc97l0
    simp only [go_sem, ↓reduceIte]
    have hh : ∀ k : Int, 0 < k → 2 * k.tdiv 2 ≤ k ∧ 0 ≤ k.tdiv 2 ∧ k.tdiv 2 < k ∧ (k.tmod 2 = 1 → 2 * k.tdiv 2 + 1 = k) := fun k hk => by
      rw [Int.tdiv_eq_ediv_of_nonneg (by omega), Int.tmod_eq_emod_of_nonneg (by omega)]; omega
    refine ⟨fun hk => ?_, fun hk => ⟨o, rfl, by rw [if_neg (by omega)] at h4; omega⟩⟩
    obtain ⟨k1, k2, k3, k4⟩ := hh k hk
    rw [if_pos hk] at h1 h4
    have hk64 : k ≤ 64 := by
      have := Int.mul_le_mul_of_nonneg_right (a := 1) (b := (s.length : Int)) (c := k) (by omega) (by omega)
      omega
    have hs2 : ((s.length + s.length : Nat) : Int) * k.tdiv 2 ≤ (s.length : Int) * k := by
      have := Int.mul_le_mul_of_nonneg_left (a := 2 * k.tdiv 2) (b := k) (c := (s.length : Int)) k1 (by omega)
      have e : ((s.length + s.length : Nat) : Int) * k.tdiv 2 = (s.length : Int) * (2 * k.tdiv 2) := by
        rw [show ((s.length + s.length : Nat) : Int) = (s.length : Int) * 2 by omega, Int.mul_assoc]
      omega
    have hs1 : (s.length : Int) ≤ (s.length : Int) * k := by
      have := Int.mul_le_mul_of_nonneg_left (a := 1) (b := k) (c := (s.length : Int)) (by omega) (by omega)
      omega
    rw [wrap64 (by omega) (by omega)]
    refine ⟨fun hodd => ⟨by omega, by omega, (s ++ s, k.tdiv 2, o ++ s), ⟨⟨?_, ?_⟩, ?_⟩, ?_, Le.refl _⟩, fun hev => ⟨by omega, (s ++ s, k.tdiv 2, o), ⟨⟨?_, ?_⟩, ?_⟩, ?_, Le.refl _⟩⟩
    all_goals simp only [List.length_append]
    · split <;> omega
    · omega
    · have e := k4 hodd
      have e2 : ((s.length + s.length : Nat) : Int) * k.tdiv 2 + s.length = (s.length : Int) * k := by
        rw [show ((s.length + s.length : Nat) : Int) = (s.length : Int) * 2 by omega, Int.mul_assoc]
        calc (s.length : Int) * (2 * k.tdiv 2) + s.length = (s.length : Int) * (2 * k.tdiv 2 + 1) := by rw [Int.mul_add, Int.mul_one]
          _ = _ := by rw [e]
      split <;> omega
    · omega
    · split <;> omega
    · omega
    · split <;> omega
    · omega
end Go.Cap

/- Contracts: a talk is drawn. -/
namespace Go.Cap
open Go Go.Proofs
set_option maxRecDepth 100000
set_option linter.unusedSimpArgs false
set_option linter.unusedVariables false
attribute [local irreducible] Call Run Spec Le

def wordRow (s : List UInt8) : List RV := [.s s]
/-- The same, where the list is the caller's own. -/
theorem s_of2 (code : List UInt8) (p : Int) (l : List (List UInt8)) (hp : 0 ≤ p ∧ p ≤ 999990) (hc : code.length ≤ 2000) (hl : 0 < l.length) (hl2 : l.length ≤ 1000) :
    Spec Try.prog 148 2 [(0, rdB code p), (1, .row 1 (l.map wordRow))] [.ptr 0 0 0, .sl 1 0 l.length] (Named2 fun r B B1 => B = rdB code (p + 1) ∧ B1 = .row 1 (l.map wordRow) ∧ ∃ s ∈ l, r = .st s) := by
  refine Spec.named2 (mk148 rfl fun c hP hm => ?_)
  unfold pc148
  simp only [go_sem, ↓reduceIte]
  intro _
  refine c_pick hP (by rfl) (by omega) hc fun v hv => ?_
  have hv' : 0 ≤ v ∧ v < l.length := by unfold Below at hv; omega
  have hvn : v.toNat < l.length := by omega
  simp only [go_sem, ↓reduceIte]
  simp only [getD_map hvn, wordRow, go_sem, ↓reduceIte]
  exact ⟨hv', hvn, _, _, rfl, rfl, rfl, rfl, rfl, rfl, _, List.getElem_mem hvn, rfl⟩

/-- A talk behind some draws: its messages lie in a new block. -/
def DrawT (code : List UInt8) (p : Int) (k : Int) (m : Nat) (r : AV) (B : Blk) (sz : Nat) (L : List (List RV)) : Prop := ∃ t : Talk, ∃ p', r = t.av (.sl 1 0 t.says.length) ∧ B = rdB code p' ∧ sz = 4 ∧ L = t.says.map Say.row ∧ p ≤ p' ∧ p' ≤ p + k ∧ t.says.length ≤ m ∧ ∀ s ∈ t.says, s.text.length ≤ 1000
theorem av_ren (t : Talk) (n : Nat) (f g : Nat → Nat) (h : f 1 = g 1) : renA f (t.av (.sl 1 0 n)) = renA g (t.av (.sl 1 0 n)) := by simp only [Talk.av, go_sem, h]

/-- A valid talk behind some draws. -/
def DrawTV (code : List UInt8) (p : Int) (k : Int) (r : AV) (B : Blk) (sz : Nat) (L : List (List RV)) : Prop := ∃ t : Talk, ∃ p', r = t.av (.sl 1 0 t.says.length) ∧ B = rdB code p' ∧ sz = 4 ∧ L = t.says.map Say.row ∧ p ≤ p' ∧ p' ≤ p + k ∧ talkB t = true
theorem s_l92TalkV (code : List UInt8) (p : Int) (hp : 0 ≤ p ∧ p ≤ 990000) (hc : code.length ≤ 2000) : Spec Try.prog 94 1 [(0, rdB code p)] [.ptr 0 0 0] (NamedNew (DrawTV code p 100)) := by
  refine Spec.namedNew (mk94 rfl fun c hP hm => ?_)
  unfold pc94
  simp only [go_sem, ↓reduceIte]
  refine c_pick hP (by rfl) (by omega) hc fun v1 hv1 => ?_
  simp only [go_sem, ↓reduceIte]
  refine c_pick hP (by rfl) (by omega) hc fun v2 hv2 => ?_
  simp only [go_sem, ↓reduceIte]
  refine c_pick hP (by rfl) (by omega) hc fun v3 hv3 => ?_
  simp only [go_sem, ↓reduceIte]
  refine c_pick hP (by rfl) (by omega) hc fun v4 hv4 => ?_
  simp only [go_sem, ↓reduceIte]
  refine c_draw (hP ▸ s_l91Good code (p + 1 + 1 + 1 + 1) (by omega) hc) rfl fun v5 p5 h51 h52 h53 h54 => ?_
  simp only [go_sem, ↓reduceIte]
  refine c_pick hP (by rfl) (by omega) hc fun v6 hv6 => ?_
  simp only [go_sem, ↓reduceIte]
  refine c_pick hP (by rfl) (by omega) hc fun v7 hv7 => ?_
  simp only [go_sem, ↓reduceIte]
  refine c_draw (hP ▸ s_l91Good code (p5 + 1 + 1) (by omega) hc) rfl fun v8 p8 h81 h82 h83 h84 => ?_
  simp only [go_sem, ↓reduceIte]
  refine c_pick hP (by rfl) (by omega) hc fun v9 hv9 => ?_
  simp only [go_sem, ↓reduceIte]
  refine c_pick hP (by rfl) (by omega) hc fun n hn => ?_
  simp only [go_sem, ↓reduceIte]
  have hn' : 0 ≤ n ∧ n ≤ 4 := by unfold Below at hn; omega
  have w1 : IntKind.i64.wrap (1 + v1) = 1 + v1 := wrap64 (by unfold Below at hv1; omega) (by unfold Below at hv1; omega)
  have w2 : IntKind.i64.wrap (6 + v2) = 6 + v2 := wrap64 (by unfold Below at hv2; omega) (by unfold Below at hv2; omega)
  have w3 : IntKind.i64.wrap (1 + v3) = 1 + v3 := wrap64 (by unfold Below at hv3; omega) (by unfold Below at hv3; omega)
  have w4 : IntKind.i64.wrap (1 + v4) = 1 + v4 := wrap64 (by unfold Below at hv4; omega) (by unfold Below at hv4; omega)
  have w6 : IntKind.i64.wrap (100 + v6) = 100 + v6 := wrap64 (by unfold Below at hv6; omega) (by unfold Below at hv6; omega)
  have w7 : IntKind.i64.wrap (1 + v7) = 1 + v7 := wrap64 (by unfold Below at hv7; omega) (by unfold Below at hv7; omega)
  have w9 : IntKind.i64.wrap (2 + v9) = 2 + v9 := wrap64 (by unfold Below at hv9; omega) (by unfold Below at hv9; omega)
  rw [w1, w2, w3, w4, w6, w7, w9]
  have h0 : talkB ⟨1 + v1, 6 + v2, ⟨1 + v3, 1000, 1 + v4, v5⟩, ⟨100 + v6, 1000, 1 + v7, v8⟩, 2 + v9, []⟩ = true := by
    unfold Below at hv1 hv2 hv3 hv4 hv6 hv7 hv9
    simp only [talkB, talkHead, talkLoop, initB, serialB, inB, Bool.and_eq_true, decide_eq_true_eq, Bool.not_eq_true', beq_eq_false_iff_ne, ne_eq, List.length_nil]
    omega
  generalize 1 + v1 = f0 at h0 ⊢
  generalize 6 + v2 = f1 at h0 ⊢
  generalize 1 + v3 = f2 at h0 ⊢
  generalize 1 + v4 = f3 at h0 ⊢
  generalize 100 + v6 = f4 at h0 ⊢
  generalize 1 + v7 = f5 at h0 ⊢
  generalize 2 + v9 = f6 at h0 ⊢
  refine lp_wpc (α := Nat × List Say × Int) (fun y => ⟨[(0, .ptr 0 0 0), (2, .ptr 1 0 0), (3, .ptr 3 0 0), (4, .i n), (5, .i y.1)],
      [(0, rdB code y.2.2), (3, .var [.i f0, .i f1, .i f2, .i 1000, .i f3, .i v5, .i f4, .i 1000, .i f5, .i v8, .i f6, .sl 2 0 y.2.1.length]), (2, .row 4 (y.2.1.map Say.row)),
       (1, .var [.i 0, .i 0, .i 0, .i 0, .i 0, .i 0, .i 0, .i 0, .i 0, .i 0, .i 0, .r .nil])], 4, []⟩)
    (fun y => (y.1 : Int) ≤ n ∧ y.2.1.length ≤ y.1 ∧ (∀ s ∈ y.2.1, s.text.length ≤ 1000) ∧ (p ≤ y.2.2 ∧ y.2.2 ≤ p + 20 + 10 * y.1) ∧ talkB ⟨f0, f1, ⟨f2, 1000, f3, v5⟩, ⟨f4, 1000, f5, v8⟩, f6, y.2.1⟩ = true) (fun y => (n - y.1).toNat) (0, [], p8 + 1 + 1)
    ⟨hn'.1, Nat.le_refl _, fun s hs => (by cases hs), ⟨by show p ≤ p8 + 1 + 1; omega, by show p8 + 1 + 1 ≤ p + 20 + 10 * ((0 : Nat) : Int); omega⟩, h0⟩ (Le.refl _) ?_
  rintro ⟨i, says, q⟩ ⟨hi, hl, hx, ⟨hq1, hq2⟩, hV⟩
  simp only at hi hl hx hq1 hq2 hV
  unfold pc94l0
  simp only [go_sem, ↓reduceIte]
  refine ⟨fun hlt => ?_, fun hge => ?_⟩
  · refine call_named2 0 4 (hP ▸ s_of2 code q [[104, 101, 108, 108, 111], [120], [116, 111, 32, 116, 104, 101, 32, 111, 116, 104, 101, 114, 32, 115, 105, 100, 101], [97, 98], [102, 111, 117, 114], [48, 49, 50, 51, 52, 53, 54, 55, 56, 57]] (by omega) hc (by decide) (by decide))
      (by decide) rfl rfl rfl rfl rfl (fun r B B1 ⟨h1, h2, s, _, h3⟩ => by subst h1; subst h2; subst h3; exact ⟨rfl, rfl, rfl⟩) ?_
    rintro r B B1 ⟨rfl, rfl, w, hw, rfl⟩
    have hwl : w.length ≤ 17 := by
      simp only [List.mem_cons, List.not_mem_nil, or_false] at hw
      rcases hw with rfl | rfl | rfl | rfl | rfl | rfl <;> decide
    simp only [go_sem, ↓reduceIte]
    refine c_pick hP (by rfl) (by omega) hc fun u1 hu1 => ?_
    simp only [go_sem, ↓reduceIte]
    refine c_pick hP (by rfl) (by omega) hc fun u2 hu2 => ?_
    simp only [go_sem, ↓reduceIte]
    refine ⟨fun hb => ?_, fun hb => ?_⟩
    all_goals
      refine c_pick hP (by rfl) (by omega) hc fun u3 hu3 => ?_
      simp only [hm, go_sem, ↓reduceIte]
      refine ⟨by omega, ?_⟩
      have hrows : List.take says.length (List.map Say.row says) ++ [[RV.b (u1 == 0), RV.n IntKind.i64 u3, RV.b (u2 == 0), RV.s w]] = (says ++ [(⟨u1 == 0, u3, u2 == 0, w⟩ : Say)]).map Say.row := by
        rw [List.take_of_length_le (by simp)]; simp [Say.row]
      have hlen : says.length + 1 = (says ++ [(⟨u1 == 0, u3, u2 == 0, w⟩ : Say)]).length := by simp
      have hx2 : ∀ s ∈ says ++ [(⟨u1 == 0, u3, u2 == 0, w⟩ : Say)], s.text.length ≤ 1000 := fun s hs => by
        rcases List.mem_append.1 hs with hs | hs
        · exact hx s hs
        · simp only [List.mem_singleton] at hs; subst hs; simp only; omega
      rw [hrows]
      refine call_flat (hP ▸ s_specTalkValid (⟨f0, f1, ⟨f2, 1000, f3, v5⟩, ⟨f4, 1000, f5, v8⟩, f6, says ++ [(⟨u1 == 0, u3, u2 == 0, w⟩ : Say)]⟩ : Talk) (by simp only; rw [← hlen]; omega) (fun s hs => by have := hx2 s hs; omega)) rfl (.cons (vw_talk (t := (⟨f0, f1, ⟨f2, 1000, f3, v5⟩, ⟨f4, 1000, f5, v8⟩, f6, says ++ [(⟨u1 == 0, u3, u2 == 0, w⟩ : Say)]⟩ : Talk)) rfl hlen) .nil) ?_
      simp only [go_sem, ↓reduceIte]
      refine ⟨fun hv => ?_, fun hv => ?_⟩
      · intro _
        have e : IntKind.i64.wrap (((says.length + 1 : Nat) : Int) - 1) = says.length := by rw [wrap64 (by omega) (by omega)]; omega
        rw [e, wrap64 (x := (i : Int) + 1) (by omega) (by omega)]
        refine ⟨⟨by omega, by omega⟩, (i + 1, says, q + 1 + 1 + 1 + 1), ⟨by simp only; omega, by simp only; omega, hx, ⟨by simp only; omega, by simp only; omega⟩, hV⟩, by simp only; omega, Le.trans (le_prefix 2 says.length rfl (by simp)) (le_ev [] ?_)⟩
        simp only [hm, go_sem, ↓reduceIte, Int.toNat_natCast, Nat.sub_zero, List.map_append, Nat.reduceLeDiff]
        simp
      · rw [wrap64 (x := (i : Int) + 1) (by omega) (by omega)]
        refine ⟨(i + 1, says ++ [(⟨u1 == 0, u3, u2 == 0, w⟩ : Say)], q + 1 + 1 + 1 + 1), ⟨by simp only; omega, by simp only; rw [← hlen]; omega, hx2, ⟨by simp only; omega, by simp only; omega⟩, hv⟩, by simp only; omega, le_ev [] ?_⟩
        simp only [hm, go_sem, ↓reduceIte, Nat.reduceLeDiff]
        simp
  · exact ⟨_, _, _, 2, (⟨f0, f1, ⟨f2, 1000, f3, v5⟩, ⟨f4, 1000, f5, v8⟩, f6, says⟩ : Talk).av (.sl 1 0 says.length), rfl, rfl, by decide, rfl, ⟨rfl, av_ren _ _⟩, ⟨f0, f1, ⟨f2, 1000, f3, v5⟩, ⟨f4, 1000, f5, v8⟩, f6, says⟩, q, rfl, rfl, rfl, rfl, by omega, by omega, hV⟩
theorem s_l92Talk (code : List UInt8) (p : Int) (hp : 0 ≤ p ∧ p ≤ 990000) (hc : code.length ≤ 2000) : Spec Try.prog 94 1 [(0, rdB code p)] [.ptr 0 0 0] (NamedNew (DrawT code p 100 5)) := by
  refine (s_l92TalkV code p hp hc).le fun r hp nx gs ⟨B, sz, L, ⟨t, p', h1, h2, h3, h4, h5, h6, h7⟩, e1, e2, e3⟩ => ⟨r, hp, nx, gs, ⟨B, sz, L, ⟨t, p', h1, h2, h3, h4, h5, h6, ?_, ?_⟩, e1, e2, e3⟩, fun c _ => Le.refl _⟩
  · obtain ⟨_, k2, _⟩ := talk_ok h7
    omega
  · obtain ⟨_, _, k3, _⟩ := talk_ok h7
    intro s hs
    have := k3 s hs
    omega
end Go.Cap

/- Contracts: talks that are sometimes invalid; a talk and a side. -/
namespace Go.Cap
open Go Go.Proofs
set_option maxRecDepth 100000
set_option linter.unusedSimpArgs false
set_option linter.unusedVariables false
attribute [local irreducible] Call Run Spec Le

theorem c_drawT {c : Cx} {f : Nat} {code : List UInt8} {p k : Int} {m : Nat} {s : St} {K : AV → St → Prop} {b : Nat} (hs : Spec c.P f 1 [(0, rdB code p)] [.ptr 0 0 0] (NamedNew (DrawT code p k m))) (hb : hget s.hp b = some (rdB code p))
    (h : ∀ (t : Talk) p', p ≤ p' → p' ≤ p + k → t.says.length ≤ m → (∀ s ∈ t.says, s.text.length ≤ 1000) → K (t.av (.sl s.nx 0 t.says.length)) ⟨s.sl, (b, rdB code p') :: (s.nx, .row 4 (t.says.map Say.row)) :: hdel s.hp b, s.nx + 1, s.gs⟩) : Call c f [.ptr b 0 0] s K :=
  call_namedNew b hs hb rfl rfl (fun r B sz L ⟨t, p', h1, h2, _⟩ => by subst h2; rfl) fun r B sz L ⟨t, p', h1, h2, h3, h4, h5, h6, h7, h8⟩ => by subst h1; subst h2; subst h3; subst h4; exact h t p' h5 h6 h7 h8

theorem s_l92Odd (code : List UInt8) (p : Int) (hp : 0 ≤ p ∧ p ≤ 980000) (hc : code.length ≤ 2000) : Spec Try.prog 44 1 [(0, rdB code p)] [.ptr 0 0 0] (NamedNew (DrawT code p 200 6)) := by
  refine Spec.namedNew (mk44 rfl fun c hP hm => ?_)
  unfold pc44
  simp only [go_sem, ↓reduceIte]
  refine c_drawT (hP ▸ s_l92Talk code p (by omega) hc) rfl fun t p1 h1 h2 h3 h4 => ?_
  simp only [Talk.av, go_sem, ↓reduceIte]
  refine c_pick hP (by rfl) (by omega) hc fun u hu => ?_
  simp only [go_sem, ↓reduceIte]
  refine ⟨fun _ => ?_, fun _ => ⟨fun _ => ?_, fun _ => ⟨fun _ => ?_, fun _ => ⟨fun _ => ?_, fun _ => ⟨fun _ => ?_, fun _ => ?_⟩⟩⟩⟩⟩
  · refine c_draw (hP ▸ s_l91Word code (p1 + 1) (by omega) hc) rfl fun v5 p5 g1 g2 g3 g4 => ?_
    simp only [go_sem, ↓reduceIte]
    exact ⟨_, _, _, 2, (({ t with fr := v5 } : Talk)).av (.sl 1 0 t.says.length), rfl, rfl, by decide, rfl, ⟨rfl, av_ren _ _⟩, { t with fr := v5 }, p5, rfl, rfl, rfl, rfl, by omega, by omega, Nat.le_trans h3 (by decide), h4⟩
  · refine call_named 0 (hP ▸ s_l91Init code (p1 + 1) (by omega) hc) rfl rfl rfl (fun r B ⟨x, p', h1, h2, _⟩ => by subst h1; subst h2; exact ⟨rfl, rfl⟩) ?_
    rintro r B ⟨x, p5, rfl, rfl, g1, g2⟩
    simp only [Init.av, go_sem, ↓reduceIte]
    exact ⟨_, _, _, 2, (({ t with a := x } : Talk)).av (.sl 1 0 t.says.length), rfl, rfl, by decide, rfl, ⟨rfl, av_ren _ _⟩, { t with a := x }, p5, rfl, rfl, rfl, rfl, by omega, by omega, Nat.le_trans h3 (by decide), h4⟩
  · refine c_pick hP (by rfl) (by omega) hc fun u2 hu2 => ?_
    simp only [go_sem, ↓reduceIte]
    exact ⟨_, _, _, 2, (({ t with size := IntKind.i64.wrap (u2 - 1) } : Talk)).av (.sl 1 0 t.says.length), rfl, rfl, by decide, rfl, ⟨rfl, av_ren _ _⟩, { t with size := IntKind.i64.wrap (u2 - 1) }, p1 + 1 + 1, rfl, rfl, rfl, rfl, by omega, by omega, Nat.le_trans h3 (by decide), h4⟩
  · refine c_pick hP (by rfl) (by omega) hc fun u2 hu2 => ?_
    simp only [go_sem, ↓reduceIte]
    refine c_pick hP (by rfl) (by omega) hc fun u3 hu3 => ?_
    simp only [go_sem, ↓reduceIte]
    refine call_flatQ (hP ▸ s_l6Many u3 (by unfold Below at hu3; omega)) (vws_self _ _ rfl) ?_
    rintro r ⟨w, rfl, hw⟩
    refine ⟨rfl, ?_⟩
    simp only [hm, go_sem, ↓reduceIte]
    have hrows : List.take t.says.length (List.map Say.row t.says) ++ [[RV.b false, RV.n IntKind.i64 (IntKind.i64.wrap (u2 - 1)), RV.b false, RV.s w]] = (t.says ++ [(⟨false, IntKind.i64.wrap (u2 - 1), false, w⟩ : Say)]).map Say.row := by
      rw [List.take_of_length_le (by simp)]; simp [Say.row]
    have hlen : t.says.length + 1 = (t.says ++ [(⟨false, IntKind.i64.wrap (u2 - 1), false, w⟩ : Say)]).length := by simp
    have hx2 : ∀ s ∈ t.says ++ [(⟨false, IntKind.i64.wrap (u2 - 1), false, w⟩ : Say)], s.text.length ≤ 1000 := fun s hs => by
      rcases List.mem_append.1 hs with hs | hs
      · exact h4 s hs
      · simp only [List.mem_singleton] at hs; subst hs; exact hw
    rw [hrows, hlen]
    refine ⟨by rw [← hlen]; omega, ?_⟩
    exact ⟨_, _, _, 2, (({ t with says := t.says ++ [(⟨false, IntKind.i64.wrap (u2 - 1), false, w⟩ : Say)] } : Talk)).av (.sl 1 0 (t.says ++ [(⟨false, IntKind.i64.wrap (u2 - 1), false, w⟩ : Say)]).length), rfl, rfl, by decide, rfl, ⟨rfl, av_ren _ _⟩, { t with says := t.says ++ [(⟨false, IntKind.i64.wrap (u2 - 1), false, w⟩ : Say)] }, p1 + 1 + 1 + 1, rfl, rfl, rfl, rfl, by omega, by omega, by simp only; rw [← hlen]; omega, hx2⟩
  · exact ⟨_, _, _, 2, (({ t with to := t.fr } : Talk)).av (.sl 1 0 t.says.length), rfl, rfl, by decide, rfl, ⟨rfl, av_ren _ _⟩, { t with to := t.fr }, p1 + 1, rfl, rfl, rfl, rfl, by omega, by omega, Nat.le_trans h3 (by decide), h4⟩
  · exact ⟨_, _, _, 2, ((t : Talk)).av (.sl 1 0 t.says.length), rfl, rfl, by decide, rfl, ⟨rfl, av_ren _ _⟩, t, p1 + 1, rfl, rfl, rfl, rfl, by omega, by omega, Nat.le_trans h3 (by decide), h4⟩

end Go.Cap

/- Contracts: the laws' helpers on parts. -/
namespace Go.Cap
open Go Go.Proofs
set_option maxRecDepth 100000
set_option linter.unusedSimpArgs false
set_option linter.unusedVariables false
attribute [local irreducible] Call Run Spec Le

theorem byte_of (r : List RV) (h : RowOk [.i .u8] r) : ∃ b : UInt8, r = byteRow b ∧ True := by
  obtain ⟨x0, r, rfl, h0, h⟩ := rowOk_cons h
  obtain rfl := rowOk_nil h
  obtain ⟨n, rfl, hn⟩ := okc_i h0
  have h8 := wf_u8 hn
  refine ⟨UInt8.ofNat n.toNat, ?_, trivial⟩
  have : ((UInt8.ofNat n.toNat).toNat : Int) = n := by
    rw [UInt8.toNat_ofNat']; omega
  simp only [byteRow, this]
theorem bytes_of {L : List (List RV)} (h : Okc (.sl [.i .u8]) (.ro none L)) : ∃ code : List UInt8, L = code.map byteRow ∧ code.length ≤ maxLen := by
  obtain ⟨L', e, hL, hrows⟩ := okc_sl h
  injection e with _ e
  subst e
  obtain ⟨l, rfl, _⟩ := rows_of byte_of hrows
  exact ⟨l, rfl, by simpa using hL⟩

theorem mid_get {α : Type} {A B : List α} {d x : α} {i : Nat} (h : A.length = i) : (A ++ x :: B).getD i d = x := by
  rw [List.getD_eq_getElem?_getD, List.getElem?_append_right (by omega), h, Nat.sub_self]; rfl
end Go.Cap

/- What a side said: the plain law, and the contracts of TalkSaid. -/
namespace Go.Cap
open Go Go.Proofs
set_option maxRecDepth 100000
set_option linter.unusedSimpArgs false
set_option linter.unusedVariables false
attribute [local irreducible] Call Run Spec Le

structure Msg where
  stream : Int
  ssn : Int
  loose : Bool
  text : List UInt8
def Msg.row (d : Msg) : List RV := [.n .i64 d.stream, .n .i64 d.ssn, .b d.loose, .s d.text]
def Msg.av (d : Msg) : AV := .agg [.i d.stream, .i d.ssn, .bo d.loose, .st d.text]
/-- The messages that parts make up, and the text that is still open. -/
def saidStep (x : List Msg × List UInt8) (d : Data) : List Msg × List UInt8 :=
  if d.last then (x.1 ++ [⟨d.stream, d.ssn, d.loose, x.2 ++ d.text⟩], []) else (x.1, x.2 ++ d.text)
def saidSt (l : List Data) : List Msg × List UInt8 := l.foldl saidStep ([], [])
def said (l : List Data) : List Msg := (saidSt l).1
theorem saidSt_app (a b : List Data) : saidSt (a ++ b) = b.foldl saidStep (saidSt a) := by unfold saidSt; rw [List.foldl_append]
theorem saidSt_take {l : List Data} {i : Nat} (h : i < l.length) : saidSt (l.take (i + 1)) = saidStep (saidSt (l.take i)) l[i] := by rw [take_get h, saidSt_app]; rfl
/-- The parts of one message, one after the other. -/
theorem said_chunks {z : Nat} (hz : 1 ≤ z) {tsn ssn : Int} {s : Say} (ms : List Msg) : ∀ n, n < manyN s.text.length z → ((List.range n).map (part z tsn ssn s)).foldl saidStep (ms, []) = (ms, s.text.take (n * z))
  | 0, _ => by simp
  | n + 1, h => by
    have ih := said_chunks hz (tsn := tsn) (ssn := ssn) (s := s) ms n (by omega)
    have h1 := (many_lt hz).1 h
    rw [List.range_succ, List.map_append, List.foldl_append, ih]
    have hl : (part z tsn ssn s n).last = false := by simp only [part, decide_eq_false_iff_not]; omega
    simp only [List.map_cons, List.map_nil, List.foldl_cons, List.foldl_nil, saidStep, hl, Bool.false_eq_true, if_false]
    have hadd : (n + 1) * z = n * z + z := by rw [Nat.add_mul, Nat.one_mul]
    have e : s.text.take (n * z) = (s.text.take ((n + 1) * z)).take (n * z) := by rw [List.take_take, Nat.min_eq_left (by omega)]
    rw [e]
    simp only [part, List.take_append_drop]
theorem said_next {z : Nat} (hz : 1 ≤ z) {tsn ssn : Int} {s : Say} (ms : List Msg) (h1 : 1 ≤ s.text.length) : (chunks z tsn ssn s).foldl saidStep (ms, []) = (ms ++ [⟨s.stream, ssn, s.loose, s.text⟩], []) := by
  have hm : 0 < manyN s.text.length z := (many_lt hz).2 (by omega)
  obtain ⟨m, hmm⟩ : ∃ m, manyN s.text.length z = m + 1 := ⟨manyN s.text.length z - 1, by omega⟩
  unfold chunks
  rw [hmm, List.range_succ, List.map_append, List.foldl_append, said_chunks hz ms m (by omega)]
  have hn : ¬ (m + 1) * z < s.text.length := fun h => by have := (many_lt hz).2 h; omega
  have hl : (part z tsn ssn s m).last = true := by simp only [part, decide_eq_true_eq]; omega
  simp only [List.map_cons, List.map_nil, List.foldl_cons, List.foldl_nil, saidStep, hl, if_true]
  have hadd : (m + 1) * z = m * z + z := by rw [Nat.add_mul, Nat.one_mul]
  have e : s.text.take (m * z) = (s.text.take ((m + 1) * z)).take (m * z) := by rw [List.take_take, Nat.min_eq_left (by omega)]
  have e2 : s.text.take (m * z) ++ (part z tsn ssn s m).text = s.text := by
    rw [e]; simp only [part, List.take_append_drop]; rw [List.take_of_length_le (by omega)]
  rw [e2]
  rfl
/-- The messages of a side's says. -/
def saidOf (z : Nat) (tsn : Int) (byB : Bool) : List Say → List Data → List Msg
  | [], _ => []
  | s :: l, f => if s.byB = byB then ⟨s.stream, ssnOf f s, s.loose, s.text⟩ :: saidOf z tsn byB l (f ++ nextParts z tsn f s) else saidOf z tsn byB l f
theorem said_parts {z : Nat} (hz : 1 ≤ z) {tsn : Int} {byB : Bool} : ∀ (l : List Say) (f : List Data), (∀ s ∈ l, 1 ≤ s.text.length) → (saidSt f).2 = [] → saidSt (partsAcc z tsn byB l f) = (said f ++ saidOf z tsn byB l f, [])
  | [], f, _, h => by simp only [partsAcc, saidOf, List.append_nil, said]; rw [← h]
  | s :: l, f, hl, h => by
    have h1 := hl s (List.mem_cons_self ..)
    have hl' : ∀ s ∈ l, 1 ≤ s.text.length := fun x hx => hl x (List.mem_cons_of_mem _ hx)
    simp only [partsAcc, saidOf]
    split
    · have e : saidSt (f ++ nextParts z tsn f s) = (said f ++ [⟨s.stream, ssnOf f s, s.loose, s.text⟩], []) := by
        rw [saidSt_app]
        have : saidSt f = (said f, []) := by unfold said; rw [← h]
        rw [this]
        exact said_next hz _ h1
      rw [said_parts hz l _ hl' (by rw [e])]
      have : said (f ++ nextParts z tsn f s) = said f ++ [⟨s.stream, ssnOf f s, s.loose, s.text⟩] := by unfold said at e ⊢; rw [e]
      rw [this, List.append_assoc]
      rfl
    · exact said_parts hz l f hl' h
def talkSaid (t : Talk) (byB : Bool) : List Msg := said (talkParts t byB)
theorem talkSaid_eq (t : Talk) (byB : Bool) (hv : talkB t = true) : talkSaid t byB = saidOf t.size.toNat (t.tsn byB) byB t.says [] := by
  obtain ⟨hsz, _, hsays, _⟩ := talk_ok hv
  unfold talkSaid talkParts
  rw [if_pos hv]
  unfold said
  rw [said_parts (by omega) t.says [] (fun s hs => (hsays s hs).1) rfl]
  rfl
theorem saidOf_drop {z : Nat} {tsn : Int} {byB : Bool} {l : List Say} {i : Nat} (h : i < l.length) (f : List Data) : saidOf z tsn byB (l.drop i) f = if l[i].byB = byB then ⟨l[i].stream, ssnOf f l[i], l[i].loose, l[i].text⟩ :: saidOf z tsn byB (l.drop (i + 1)) (f ++ nextParts z tsn f l[i]) else saidOf z tsn byB (l.drop (i + 1)) f := by
  rw [List.drop_eq_getElem_cons h]; rfl
theorem msgClosed (l : List Msg) : closL2 (l.map Msg.row) := closL2_map (fun s x hx => by
  simp only [Msg.row, List.mem_cons, List.not_mem_nil, or_false] at hx
  rcases hx with rfl | rfl | rfl | rfl <;> rfl) l
end Go.Cap

/- Contracts: a valid part, and which part may follow. -/
namespace Go.Cap
open Go Go.Proofs
set_option maxRecDepth 100000
set_option linter.unusedSimpArgs false
set_option linter.unusedVariables false
attribute [local irreducible] Call Run Spec Le

def dataB (d : Data) : Bool := serialB d.tsn && serialB d.stream && serialB d.ssn && decide (1 ≤ d.text.length ∧ d.text.length ≤ 20)
def likeB (a b : Data) : Bool := a.stream == b.stream && a.ssn == b.ssn && a.loose == b.loose
theorem s_dataOk (d : Data) (h : d.text.length ≤ 9223372036854775807) : Spec Try.prog 110 0 [] [d.av] (fun r _ _ _ => r = .bo (dataB d)) := by
  refine mk110 rfl fun c hP hm => ?_
  unfold pc110 Data.av
  simp only [go_sem, ↓reduceIte]
  repeat' first | refine And.intro ?_ ?_ | intro _ | (refine c_serialOk hP ?_; simp only [go_sem, ↓reduceIte])
  all_goals (apply bo_inj; rw [Bool.eq_iff_iff]; simp [dataB, *] <;> omega)
theorem s_l12Data (d : Data) (h : d.text.length ≤ 9223372036854775807) : Spec Try.prog 140 0 [] [d.av] (fun r _ _ _ => r = .bo (dataB d)) := by
  refine mk140 rfl fun c hP hm => ?_
  unfold pc140 Data.av
  simp only [go_sem, ↓reduceIte]
  repeat' first | refine And.intro ?_ ?_ | intro _ | (refine c_l6In hP ?_; simp only [go_sem, ↓reduceIte]) | (refine c_l3Ok hP ?_; simp only [go_sem, ↓reduceIte])
  all_goals (apply bo_inj; rw [Bool.eq_iff_iff]; simp [dataB, inB, *] <;> omega)
theorem s_likeParts (a b : Data) : Spec Try.prog 159 0 [] [a.av, b.av] (fun r _ _ _ => r = .bo (likeB a b)) := by
  refine mk159 rfl fun c hP hm => ?_
  unfold pc159 Data.av
  simp only [go_sem, ↓reduceIte]
  repeat' first | refine And.intro ?_ ?_ | intro _
  all_goals (simp [likeB, *])
/-- Which part may follow others. -/
def mayB (l : List Data) (d : Data) : Bool := match l.getLast? with
  | some x => if x.last then d.first && (d.loose || d.ssn == ssnIn l d.stream) else !d.first && likeB d x
  | none => d.first && (d.loose || d.ssn == ssnIn l d.stream)
theorem loop_mayFollow {c : Cx} (hm : c.m = 0) (l : List Data) (d : Data) (hl : l.length ≤ 2000000) {s0 : St} {n r : St → Prop} {x : Nat → St → Prop}
    (hs : Le c s0 ⟨[(3, .ptr 0 0 0), (5, .i 0), (39, .r (.ro none (l.map Data.row))), (40, .i l.length), (41, .i 0)], [(0, .var [.i d.tsn, .i d.stream, .i d.ssn, .bo d.first, .bo d.last, .bo d.loose, .st d.text])], 1, []⟩)
    (hx : x 0 ⟨[(3, .ptr 0 0 0), (5, .i (ssnIn l d.stream))], [(0, .var [.i d.tsn, .i d.stream, .i d.ssn, .bo d.first, .bo d.last, .bo d.loose, .st d.text])], 1, []⟩) :
    Run c (.lp pc112l0) s0 n x r := by
  refine run_exit 0 (fun t0 => t0 = ⟨[(3, .ptr 0 0 0), (5, .i (ssnIn l d.stream))], [(0, .var [.i d.tsn, .i d.stream, .i d.ssn, .bo d.first, .bo d.last, .bo d.loose, .st d.text])], 1, []⟩) ?_ (fun t0 h => by rw [h]; exact hx)
  refine lp_wpc (α := Nat) (fun i => ⟨[(3, .ptr 0 0 0), (5, .i (ssnIn (l.take i) d.stream)), (39, .r (.ro none (l.map Data.row))), (40, .i l.length), (41, .i i)], [(0, .var [.i d.tsn, .i d.stream, .i d.ssn, .bo d.first, .bo d.last, .bo d.loose, .st d.text])], 1, []⟩)
    (fun i => i ≤ l.length) (fun i => l.length - i) 0 (Nat.zero_le _) hs ?_
  intro i hi
  unfold pc112l0
  rcases Nat.lt_or_ge i l.length with hil | hil
  · have hst := ssnIn_take hil d.stream
    have hle := ssnIn_le (l.take i) d.stream
    have htl : (l.take i).length ≤ l.length := by rw [List.length_take]; omega
    simp only [Int.toNat_natCast, getD_map hil, Data.row, hm, go_sem, ↓reduceIte]
    rw [wrap64 (x := (i : Int) + 1) (by omega) (by omega), wrap64 (x := (ssnIn (l.take i) d.stream : Int) + 1) (by omega) (by omega)]
    repeat' first | refine And.intro ?_ ?_ | intro _
    all_goals first
      | omega
      | (refine ⟨i + 1, hil, by omega, ?_⟩
         rw [hst]
         simp only [*, if_true, if_false, Bool.false_eq_true, and_self, true_and, false_and, and_false, reduceCtorEq, Nat.add_zero]
         exact le_ev [] (by simp only [hm, go_sem, ↓reduceIte]; first | rfl | exact ⟨rfl, rfl⟩))
  · have : i = l.length := by omega
    subst this
    simp only [go_sem, ↓reduceIte]
    exact ⟨_, rfl, le_ev [] (by simp only [hm, List.take_length, go_sem, ↓reduceIte])⟩
theorem s_mayFollow (l : List Data) (d : Data) (hl : l.length ≤ 2000000) : Spec Try.prog 112 0 [] [.r (.ro none (l.map Data.row)), d.av] (fun r _ _ _ => r = .bo (mayB l d)) := by
  refine mk112 rfl fun c hP hm => ?_
  unfold pc112 Data.av
  rcases l.eq_nil_or_concat with rfl | ⟨l0, x, rfl⟩
  · simp only [go_sem, ↓reduceIte]
    refine ⟨fun h => by apply bo_inj; simp [mayB, h], fun h => ⟨fun h2 => by apply bo_inj; simp [mayB, h, h2], fun h2 => ?_⟩⟩
    refine loop_mayFollow hm [] d (by decide) (le_ev [] (by simp only [hm, List.map_nil, go_sem, ↓reduceIte])) ?_
    simp only [go_sem, ↓reduceIte]
    apply bo_inj; simp [mayB, h, h2]
  · rw [List.concat_eq_append] at hl ⊢
    have hlen : (l0 ++ [x]).length = l0.length + 1 := by simp
    have hlast : (l0 ++ [x]).getLast? = some x := by simp
    have hg : ((l0 ++ [x]).map Data.row).getD l0.length [] = [.n .i64 x.tsn, .n .i64 x.stream, .n .i64 x.ssn, .b x.first, .b x.last, .b x.loose, .s x.text] := by
      rw [List.map_append, List.map_cons]; exact mid_get (by simp)
    generalize hL : l0 ++ [x] = l at hl hlen hlast hg
    have e1 : IntKind.i64.wrap (((l0.length + 1 : Nat) : Int) - 1) = (l0.length : Int) := by rw [wrap64 (by omega) (by omega)]; omega
    simp only [hlen, e1, hg, Int.toNat_natCast, go_sem, ↓reduceIte]
    repeat' first | refine And.intro ?_ ?_ | intro _ | (refine call_pure (hP ▸ s_likeParts d x) rfl rfl ?_; simp only [hlen, e1, hg, Int.toNat_natCast, go_sem, ↓reduceIte]) | (refine loop_mayFollow hm l d (by omega) (le_ev [] (by simp only [hm, hlen, go_sem, ↓reduceIte])) ?_; simp only [go_sem, ↓reduceIte])
    all_goals first
      | omega
      | (apply bo_inj; simp [mayB, *])
end Go.Cap

/- Contracts: a valid side, and what it said. -/
namespace Go.Cap
open Go Go.Proofs
set_option maxRecDepth 100000
set_option linter.unusedSimpArgs false
set_option linter.unusedVariables false
attribute [local irreducible] Call Run Spec Le

structure Side where
  tag : Int
  streams : Int
  first : Int
  sent : List Data
  acked : Int
def Side.av (s : Side) (x : AV) : AV := .agg [.i s.tag, .i s.streams, .i s.first, x, .i s.acked]
def Side.ro (s : Side) : AV := s.av (.r (.ro none (s.sent.map Data.row)))
def partB (add : Int → Int → Int) (s : Side) (i : Nat) (d : Data) : Bool := dataB d && d.tsn == add s.first i && decide (d.stream < s.streams) && mayB (s.sent.take i) d
def sideLoop (add : Int → Int → Int) (s : Side) : Nat → List Data → Bool
  | _, [] => true
  | i, d :: l => partB add s i d && sideLoop add s (i + 1) l
theorem sideLoop_drop {add : Int → Int → Int} {s : Side} {l : List Data} {i : Nat} (h : i < l.length) : sideLoop add s i (l.drop i) = (partB add s i l[i] && sideLoop add s (i + 1) (l.drop (i + 1))) := by
  rw [List.drop_eq_getElem_cons h]; rfl
def headB (s : Side) : Bool := decide (1 ≤ s.tag ∧ s.tag ≤ 4294967295) && decide (1 ≤ s.streams ∧ s.streams ≤ 4) && serialB s.first && decide (s.sent.length ≤ 12) && decide (0 ≤ s.acked ∧ s.acked ≤ s.sent.length)
def noneB (s : Side) : Bool := s.streams == 0 && s.first == 0 && decide (s.sent.length = 0) && s.acked == 0
def sideB (s : Side) : Bool := if s.tag = 0 then noneB s else headB s && sideLoop l3 s 0 s.sent
theorem s_SerialAdd1 (a n : Int) (h : serialB a = true) : Spec Try.prog 111 0 [] [.i a, .i n] (fun r _ _ _ => r = .i (l3 a n)) := by
  have := s_SerialAdd a n; rwa [if_pos h] at this
theorem loop_implSideValid {c : Cx} (hP : c.P = Try.prog) (hm : c.m = 0) (s : Side) (hl : s.sent.length ≤ 12) (hx : ∀ d ∈ s.sent, d.text.length ≤ 9223372036854775807) (hf : serialB s.first = true) {s0 : St} {n r : St → Prop} {x : Nat → St → Prop}
    (hs : Le c s0 ⟨[(1, .ptr 0 0 0), (71, .r (.ro none (s.sent.map Data.row))), (72, .i s.sent.length), (73, .i 0)], [(0, .var [.i s.tag, .i s.streams, .i s.first, .r (.ro none (s.sent.map Data.row)), .i s.acked])], 1, []⟩)
    (hr : sideLoop l3 s 0 s.sent = false → ∀ hp nx gs, r ⟨[(2, .r (.b false))], hp, nx, gs⟩)
    (hx0 : sideLoop l3 s 0 s.sent = true → x 0 ⟨[], [], 1, []⟩) :
    Run c (.lp pc52l0) s0 n x r := by
  refine run_exit 0 (fun t0 => t0 = ⟨[], [], 1, []⟩ ∧ sideLoop l3 s 0 s.sent = true) ?_ (fun t0 h => by rw [h.1]; exact hx0 h.2)
  refine lp_wpc (α := Nat) (fun i => ⟨[(1, .ptr 0 0 0), (71, .r (.ro none (s.sent.map Data.row))), (72, .i s.sent.length), (73, .i i)], [(0, .var [.i s.tag, .i s.streams, .i s.first, .r (.ro none (s.sent.map Data.row)), .i s.acked])], 1, []⟩)
    (fun i => i ≤ s.sent.length ∧ sideLoop l3 s i (s.sent.drop i) = sideLoop l3 s 0 s.sent) (fun i => s.sent.length - i) 0 ⟨Nat.zero_le _, rfl⟩ hs ?_
  rintro i ⟨hi, hI⟩
  unfold pc52l0
  rcases Nat.lt_or_ge i s.sent.length with hil | hil
  · rw [sideLoop_drop hil] at hI
    have hd := hx _ (List.getElem_mem hil)
    simp only [Int.toNat_natCast, getD_map hil, Data.row, hm, go_sem, ↓reduceIte]
    generalize s.sent[i] = d at hI hd
    repeat' first | refine And.intro ?_ ?_ | intro _ | (refine call_pure (hP ▸ s_dataOk d hd) rfl rfl ?_; simp only [Int.toNat_natCast, getD_map hil, hm, go_sem, ↓reduceIte]) | (refine call_pure (hP ▸ s_SerialAdd1 s.first i hf) rfl rfl ?_; simp only [Int.toNat_natCast, getD_map hil, ← List.map_take, hm, go_sem, ↓reduceIte]) | (refine call_pure (hP ▸ s_mayFollow (s.sent.take i) d (by rw [List.length_take]; omega)) rfl rfl ?_; simp only [Int.toNat_natCast, getD_map hil, hm, go_sem, ↓reduceIte])
    all_goals first
      | omega
      | (rename_i h; obtain ⟨_, _, rfl⟩ := List.mem_map.1 h; rfl)
      | (refine hr ?_ _ _ _; rw [← hI]; simp [partB, *]; done)
      | (rename_i h; have h' := Int.not_lt.2 h; refine hr ?_ _ _ _; rw [← hI]; simp [partB, h']; done)
      | (refine ⟨i + 1, ⟨hil, ?_⟩, by omega, ?_⟩
         · rw [← hI]; simp [partB, *]
         · rw [wrap64 (by omega) (by omega)]
           exact le_ev [] (by simp only [hm, go_sem, ↓reduceIte]; rfl))
  · have : i = s.sent.length := by omega
    subst this
    rw [List.drop_eq_nil_of_le (Nat.le_refl _)] at hI
    simp only [go_sem, ↓reduceIte]
    exact ⟨_, ⟨rfl, hI.symm⟩, le_ev [] (by simp only [hm, go_sem, ↓reduceIte])⟩
theorem s_implSideValid (s : Side) (hl : s.sent.length ≤ 2000000) (hx : ∀ d ∈ s.sent, d.text.length ≤ 9223372036854775807) : Spec Try.prog 52 0 [] [s.ro] (fun r _ _ _ => r = .bo (sideB s)) := by
  refine mk52 rfl fun c hP hm => ?_
  unfold pc52 Side.ro Side.av
  simp only [go_sem, ↓reduceIte]
  repeat' first | refine And.intro ?_ ?_ | intro _ | (refine c_serialOk hP ?_; simp only [go_sem, ↓reduceIte])
  all_goals first
    | (apply bo_inj; rw [Bool.eq_iff_iff]; simp [sideB, noneB, headB, *] <;> omega)
    | (apply bo_inj; rw [Bool.eq_iff_iff]; simp only [sideB, noneB, if_pos (by assumption : s.tag = 0), Bool.and_eq_true, beq_iff_eq, decide_eq_true_eq, Bool.false_eq_true, false_iff]; omega)
    | (refine loop_implSideValid hP hm s (by omega) hx (by assumption) (le_ev [] (by simp only [hm, go_sem, ↓reduceIte])) ?_ ?_
       · intro hf hp nx gs
         simp only [go_sem, ↓reduceIte]
         apply bo_inj; simp [sideB, hf, *]
       · intro hf
         simp only [go_sem, ↓reduceIte]
         apply bo_inj; rw [Bool.eq_iff_iff]; simp [sideB, headB, *]; omega)
end Go.Cap

/- Contracts: TalkSaid of the program and of the reference. -/
namespace Go.Cap
open Go Go.Proofs
set_option maxRecDepth 100000
set_option linter.unusedSimpArgs false
set_option linter.unusedVariables false
attribute [local irreducible] Call Run Spec Le

theorem cnt_get {f : List Data} {x : Int} (h : 0 ≤ x ∧ x < 4) : aget (cnt f) x.toNat = .i (ssnIn f x) := by
  rcases stream4 h with rfl | rfl | rfl | rfl <;> rfl
theorem cnt_set {z : Nat} (hz : 1 ≤ z) {tsn : Int} {f : List Data} {s : Say} (h1 : 1 ≤ s.text.length) (h : 0 ≤ s.stream ∧ s.stream < 4) (hl : s.loose = false) : (cnt f).set s.stream.toNat (.i ((ssnIn f s.stream : Int) + 1)) = cnt (f ++ nextParts z tsn f s) := by
  have e := fun y => ssnIn_next hz tsn f s h1 y
  unfold cnt
  rw [e 0, e 1, e 2, e 3]
  rcases stream4 h with h | h | h | h <;> simp [h, hl]
theorem cnt_loose {z : Nat} (hz : 1 ≤ z) {tsn : Int} {f : List Data} {s : Say} (h1 : 1 ≤ s.text.length) (hl : s.loose = true) : cnt (f ++ nextParts z tsn f s) = cnt f := by
  have e := fun y => ssnIn_next hz tsn f s h1 y
  unfold cnt
  rw [e 0, e 1, e 2, e 3]; simp [hl]
def cntR (f : List Data) : List RV := [.n .i64 (ssnIn f 0), .n .i64 (ssnIn f 1), .n .i64 (ssnIn f 2), .n .i64 (ssnIn f 3)]
theorem cntR_map (f : List Data) : cnt f = (cntR f).map .r := rfl
@[go_sem] theorem cnt_len (f : List Data) : (cnt f).length = 4 := (rfl)
@[go_sem] theorem cntR_len (f : List Data) : (cntR f).length = 4 := (rfl)
theorem loop_TalkSaid {c : Cx} (hP : c.P = Try.prog) (hm : c.m = 0) (t : Talk) (byB : Bool) (hv : talkB t = true) {s0 : St} {n r : St → Prop} {x : Nat → St → Prop}
    (hs : Le c s0 ⟨[(1, .bo byB), (5, .sl 1 0 0), (6, .ptr 2 0 0), (16, .r (.ro none (t.says.map Say.row))), (17, .i t.says.length), (18, .i 0)], [(2, .var ((cntR []).map .r)), (1, .row 4 [])], 3, []⟩)
    (hx : x 0 ⟨[(5, .sl 1 0 (talkSaid t byB).length)], [(1, .row 4 ((talkSaid t byB).map Msg.row))], 2, []⟩) :
    Run c (.lp pc15l0) s0 n x r := by
  obtain ⟨hsz, hlen, hsays, hta, htb, hsa, hsb⟩ := talk_ok hv
  refine run_exit 0 (fun t0 => t0 = ⟨[(5, .sl 1 0 (talkSaid t byB).length)], [(1, .row 4 ((talkSaid t byB).map Msg.row))], 2, []⟩) ?_ (fun t0 h => by rw [h]; exact hx)
  refine lp_wpc (α := Nat × List Msg × List Data) (fun y => ⟨[(1, .bo byB), (5, .sl 1 0 y.2.1.length), (6, .ptr 2 0 0), (16, .r (.ro none (t.says.map Say.row))), (17, .i t.says.length), (18, .i y.1)], [(2, .var ((cntR y.2.2).map .r)), (1, .row 4 (y.2.1.map Msg.row))], 3, []⟩)
    (fun y => y.1 ≤ t.says.length ∧ y.2.1.length ≤ y.1 ∧ y.2.2.length ≤ 60 * y.1 ∧ y.2.1 ++ saidOf t.size.toNat (t.tsn byB) byB (t.says.drop y.1) y.2.2 = talkSaid t byB) (fun y => t.says.length - y.1) (0, [], [])
    ⟨Nat.zero_le _, Nat.le_refl _, Nat.zero_le _, by rw [talkSaid_eq t byB hv]; rfl⟩ hs ?_
  rintro ⟨i, out, f⟩ ⟨hi, ho, hf, hI⟩
  simp only at hi ho hf hI
  unfold pc15l0
  rcases Nat.lt_or_ge i t.says.length with hil | hil
  · rw [saidOf_drop hil] at hI
    obtain ⟨q1, q2, q3, q4⟩ := hsays _ (List.getElem_mem hil)
    simp only [Int.toNat_natCast, getD_map hil, Say.row, hm, go_sem, ↓reduceIte]
    generalize t.says[i] = s at hI q1 q2 q3 q4
    have hml := many_le2 (n := s.text.length) (sz := t.size.toNat) (by omega)
    have h4 : 0 ≤ s.stream ∧ s.stream < 4 := by
      refine ⟨q3, ?_⟩
      cases hb : s.byB <;> simp only [hb, if_true, if_false, Bool.false_eq_true] at q4 <;> omega
    rw [← cntR_map]
    simp only [cnt_get h4, hm, go_sem, ↓reduceIte]
    have hle := ssnIn_le f s.stream
    rw [wrap64 (x := (i : Int) + 1) (by omega) (by omega), wrap64 (x := (ssnIn f s.stream : Int) + 1) (by omega) (by omega)]
    have hnl : (f ++ nextParts t.size.toNat (t.tsn byB) f s).length ≤ 60 * (i + 1) := by rw [List.length_append, nextParts_len]; omega
    have hrow : List.take out.length (out.map Msg.row) ++ [[.n .i64 s.stream, .n .i64 (ssnOf f s), .b s.loose, .s s.text]] = (out ++ [(⟨s.stream, ssnOf f s, s.loose, s.text⟩ : Msg)]).map Msg.row := by
      rw [List.take_of_length_le (by simp)]; simp [Msg.row]
    refine ⟨fun hlt => ⟨⟨by omega, by omega⟩, fun hb => ?_, fun hb => ⟨fun hlo => ?_, fun hlo => ?_⟩⟩, fun hge => absurd hge (by omega)⟩
    · rw [if_neg hb] at hI
      exact ⟨(i + 1, out, f), ⟨hil, by simp only; omega, by simp only; omega, hI⟩, by simp only; omega, le_ev [] (by simp only [cntR_map, hm, go_sem, ↓reduceIte]; rfl)⟩
    · rw [if_pos hb] at hI
      have hso : ssnOf f s = ssnIn f s.stream := by simp [ssnOf, hlo]
      have hset := cnt_set (z := t.size.toNat) (by omega) (tsn := t.tsn byB) (f := f) q1 h4 hlo
      rw [hso] at hrow hI
      refine ⟨h4, by omega, h4, by omega, h4, by omega, by omega, (i + 1, out ++ [(⟨s.stream, ssnIn f s.stream, s.loose, s.text⟩ : Msg)], f ++ nextParts t.size.toNat (t.tsn byB) f s), ⟨hil, by simp only [List.length_append, List.length_cons, List.length_nil]; omega, hnl, by simp only [List.append_assoc, List.cons_append, List.nil_append]; exact hI⟩, by simp only; omega, ?_⟩
      rw [hrow, hset]
      exact le_ev [] (by simp only [cntR_map, hm, go_sem, ↓reduceIte]; rfl)
    · rw [if_pos hb] at hI
      have hso : ssnOf f s = 0 := by simp [ssnOf, hlo]
      have hset : (cntR (f ++ nextParts t.size.toNat (t.tsn byB) f s)).map AV.r = (cntR f).map AV.r := cnt_loose (z := t.size.toNat) (by omega) (tsn := t.tsn byB) (f := f) q1 hlo
      rw [hso] at hrow hI
      refine ⟨by omega, (i + 1, out ++ [(⟨s.stream, 0, s.loose, s.text⟩ : Msg)], f ++ nextParts t.size.toNat (t.tsn byB) f s), ⟨hil, by simp only [List.length_append, List.length_cons, List.length_nil]; omega, hnl, by simp only [List.append_assoc, List.cons_append, List.nil_append]; exact hI⟩, by simp only; omega, ?_⟩
      rw [hrow]
      exact le_ev [] (by simp only [cntR_map, hset, hm, go_sem, ↓reduceIte]; rfl)
  · have : i = t.says.length := by omega
    subst this
    rw [List.drop_eq_nil_of_le (Nat.le_refl _)] at hI
    simp only [saidOf, List.append_nil] at hI
    rw [← hI]
    simp only [go_sem, ↓reduceIte]
    exact ⟨_, rfl, le_ev [] (by simp only [hm, go_sem, ↓reduceIte, Nat.reduceLeDiff])⟩
theorem s_implTalkSaid1 (t : Talk) (byB : Bool) (hl : t.says.length ≤ 1048576) (hv : talkB t = true) : Spec Try.prog 15 0 [] [t.ro, .bo byB] (New1 (.sl 0 0 (talkSaid t byB).length) 4 ((talkSaid t byB).map Msg.row)) := by
  refine Spec.new1 (Q := fun r hp _ _ => r = .sl 1 0 (talkSaid t byB).length ∧ hget hp 1 = some (.row 4 ((talkSaid t byB).map Msg.row))) ?_ (fun r hp nx gs h => ⟨1, h.1, h.2⟩) (fun f g h => by simp only [go_sem, h])
  refine mk15 rfl fun c hP hm => ?_
  unfold pc15 Talk.ro Talk.av
  simp only [go_sem, ↓reduceIte]
  refine call_pure (hP ▸ s_implTalkValid t hl) rfl rfl ?_
  simp only [hv, go_sem, ↓reduceIte]
  intro _
  refine loop_TalkSaid hP hm t byB hv (le_ev [] (by simp only [hm, cntR, ssnIn, List.countP_nil, go_sem, ↓reduceIte])) ?_
  simp only [hm, go_sem, ↓reduceIte]
theorem s_sameMessages (l : List Msg) : Spec Try.prog 16 0 [] [.r (.ro none (l.map Msg.row)), .r (.ro none (l.map Msg.row))] (fun r _ _ _ => r = .bo true) := by
  refine mk16 rfl fun c hP hm => ?_
  unfold pc16
  simp only [go_sem, ↓reduceIte]
  intro hlen _
  refine lp_wpc (α := Nat) (fun i => ⟨[(0, .r (.ro none (l.map Msg.row))), (1, .r (.ro none (l.map Msg.row))), (5, .i i)], [], 0, []⟩) (fun i => i ≤ l.length) (fun i => l.length - i) 0 (Nat.zero_le _) (Le.refl _) ?_
  intro i hi
  unfold pc16l0
  simp only [go_sem, ↓reduceIte]
  intro _
  intro hlt
  have hil : i < l.length := by omega
  simp only [Int.toNat_natCast, getD_map hil, Msg.row, go_sem, ↓reduceIte]
  rw [wrap64 (by omega) (by omega)]
  exact ⟨⟨by omega, by omega⟩, ⟨by omega, by omega⟩, i + 1, hil, by omega, Le.refl _⟩
end Go.Cap

/- Contracts: SideSaid of the program and of the reference. -/
namespace Go.Cap
open Go Go.Proofs
set_option maxRecDepth 100000
set_option linter.unusedSimpArgs false
set_option linter.unusedVariables false
attribute [local irreducible] Call Run Spec Le

def sinStep (x : List Msg × List UInt8) (d : Data) : List Msg × List UInt8 :=
  let acc := (if d.first then [] else x.2) ++ d.text
  if d.last then (x.1 ++ [⟨d.stream, d.ssn, d.loose, acc⟩], acc) else (x.1, acc)
def sinSt (l : List Data) : List Msg × List UInt8 := l.foldl sinStep ([], [])
theorem sinSt_take {l : List Data} {i : Nat} (h : i < l.length) : sinSt (l.take (i + 1)) = sinStep (sinSt (l.take i)) l[i] := by rw [take_get h]; unfold sinSt; rw [List.foldl_append]; rfl
theorem sinSt_len' (m : Nat) : ∀ (l : List Data) (x : List Msg × List UInt8), (∀ d ∈ l, d.text.length ≤ m) → (l.foldl sinStep x).1.length ≤ x.1.length + l.length ∧ (l.foldl sinStep x).2.length ≤ x.2.length + m * l.length
  | [], x, _ => by simp
  | d :: l, x, h => by
    have h3 := h d (List.mem_cons_self ..)
    obtain ⟨h1, h2⟩ := sinSt_len' m l (sinStep x d) (fun y hy => h y (List.mem_cons_of_mem _ hy))
    have e : m * (l.length + 1) = m * l.length + m := by rw [Nat.mul_add, Nat.mul_one]
    simp only [List.foldl_cons, List.length_cons]
    have k1 : (sinStep x d).1.length ≤ x.1.length + 1 := by unfold sinStep; dsimp only; split <;> simp
    have k2 : (sinStep x d).2.length ≤ x.2.length + m := by unfold sinStep; cases d.first <;> cases d.last <;> simp <;> omega
    omega
theorem sinSt_len (l : List Data) (m : Nat) (h : ∀ d ∈ l, d.text.length ≤ m) : (sinSt l).1.length ≤ l.length ∧ (sinSt l).2.length ≤ m * l.length := by
  have := sinSt_len' m l ([], []) h
  simpa [sinSt] using this
theorem sin_eq {l : List Data} (h : ∀ i (hi : i < l.length), mayB (l.take i) l[i] = true) : ∀ i, i ≤ l.length → (sinSt (l.take i)).1 = (saidSt (l.take i)).1 ∧
    (match (l.take i).getLast? with | some x => if x.last then (saidSt (l.take i)).2 = [] else (saidSt (l.take i)).2 = (sinSt (l.take i)).2 | none => (saidSt (l.take i)).2 = [])
  | 0, _ => by simp [sinSt, saidSt]
  | i + 1, hi => by
    have hil : i < l.length := by omega
    obtain ⟨h1, h2⟩ := sin_eq h i (by omega)
    have hm := h i hil
    rw [sinSt_take hil, saidSt_take hil]
    have hg : (l.take (i + 1)).getLast? = some l[i] := by rw [take_get hil]; exact List.getLast?_concat
    rw [hg]
    generalize l[i] = d at hm
    unfold mayB at hm
    generalize sinSt (l.take i) = A at h1 h2
    generalize saidSt (l.take i) = B at h1 h2
    obtain ⟨a1, a2⟩ := A
    obtain ⟨b1, b2⟩ := B
    simp only at h1 h2
    subst h1
    have key : (if d.first then ([] : List UInt8) else a2) = b2 := by
      cases hl : (l.take i).getLast? with
      | none =>
        rw [hl] at hm h2
        simp only [Bool.and_eq_true] at hm h2
        rw [if_pos hm.1, h2]
      | some x =>
        rw [hl] at hm h2
        simp only at hm h2
        cases hx : x.last
        · rw [hx] at hm h2
          simp only [Bool.false_eq_true, if_false, Bool.and_eq_true, Bool.not_eq_true'] at hm h2
          rw [if_neg (by simp [hm.1]), h2]
        · rw [hx] at hm h2
          simp only [if_true, Bool.and_eq_true] at hm h2
          rw [if_pos hm.1, h2]
    simp only [sinStep, saidStep, key]
    cases d.last <;> simp
theorem sin_said {l : List Data} (h : ∀ i (hi : i < l.length), mayB (l.take i) l[i] = true) : (sinSt l).1 = said l := by
  have := (sin_eq h l.length (Nat.le_refl _)).1
  rwa [List.take_length] at this
theorem sideLoop_may {add : Int → Int → Int} {s : Side} : ∀ (l : List Data) (i : Nat), sideLoop add s i l = true → ∀ j (hj : j < l.length), partB add s (i + j) l[j] = true
  | [], i, h, j, hj => by simp at hj
  | d :: l, i, h, 0, hj => by simp only [sideLoop, Bool.and_eq_true] at h; exact h.1
  | d :: l, i, h, j + 1, hj => by
    simp only [sideLoop, Bool.and_eq_true] at h
    have := sideLoop_may l (i + 1) h.2 j (by simpa using hj)
    simpa [Nat.add_assoc, Nat.add_comm 1 j] using this
/-- What a valid side promises. -/
theorem side_ok {s : Side} (h : sideB s = true) : s.sent.length ≤ 12 ∧ (∀ d ∈ s.sent, d.text.length ≤ 20) ∧ ∀ i (hi : i < s.sent.length), mayB (s.sent.take i) s.sent[i] = true := by
  unfold sideB at h
  split at h
  · simp only [noneB, Bool.and_eq_true, decide_eq_true_eq] at h
    have h0 : s.sent = [] := List.eq_nil_of_length_eq_zero h.1.2
    rw [h0]
    exact ⟨by simp, fun d hd => by simp at hd, fun i hi => by simp at hi⟩
  · simp only [headB, Bool.and_eq_true, decide_eq_true_eq] at h
    obtain ⟨⟨⟨⟨⟨h1, h2⟩, h3⟩, h4⟩, h5⟩, h6⟩ := h
    have key := sideLoop_may s.sent 0 h6
    refine ⟨h4, fun d hd => ?_, fun i hi => ?_⟩
    · obtain ⟨i, hi, rfl⟩ := List.getElem_of_mem hd
      have := key i hi
      simp only [partB, dataB, Bool.and_eq_true, decide_eq_true_eq] at this
      omega
    · have := key i hi
      simp only [partB, Bool.and_eq_true, Nat.zero_add] at this
      exact this.2
theorem s_saidIn (l : List Data) (hl : l.length ≤ 100000) (hx : ∀ d ∈ l, d.text.length ≤ 100000) : Spec Try.prog 53 0 [] [.r (.ro none (l.map Data.row))] (New1 (.sl 0 0 (sinSt l).1.length) 4 ((sinSt l).1.map Msg.row)) := by
  refine Spec.new1 (Q := fun r hp _ _ => r = .sl 0 0 (sinSt l).1.length ∧ hget hp 0 = some (.row 4 ((sinSt l).1.map Msg.row))) ?_ (fun r hp nx gs h => ⟨0, h.1, h.2⟩) (fun f g h => by simp only [go_sem, h])
  refine mk53 rfl fun c hP hm => ?_
  unfold pc53
  simp only [go_sem, ↓reduceIte]
  intro _
  refine run_exit 0 (fun t0 => t0 = ⟨[(3, .sl 0 0 (sinSt l).1.length)], [(0, .row 4 ((sinSt l).1.map Msg.row))], 1, []⟩) ?_ (fun t0 h => by rw [h]; simp only [go_sem, ↓reduceIte])
  refine lp_wpc (α := Nat) (fun i => ⟨[(3, .sl 0 0 (sinSt (l.take i)).1.length), (4, .st (sinSt (l.take i)).2), (8, .r (.ro none (l.map Data.row))), (9, .i l.length), (10, .i i)], [(0, .row 4 ((sinSt (l.take i)).1.map Msg.row))], 1, []⟩) (fun i => i ≤ l.length) (fun i => l.length - i) 0 (Nat.zero_le _) (le_ev [] (by simp only [hm, List.take_zero, sinSt, List.foldl_nil, go_sem, ↓reduceIte])) ?_
  intro i hi
  unfold pc53l0
  rcases Nat.lt_or_ge i l.length with hil | hil
  · obtain ⟨k1, k2⟩ := sinSt_len (l.take i) 100000 (fun d hd => hx d (List.mem_of_mem_take hd))
    have hd := hx _ (List.getElem_mem hil)
    have hs := sinSt_take hil
    simp only [Int.toNat_natCast, getD_map hil, Data.row, hm, go_sem, ↓reduceIte]
    have hti : (l.take i).length = i := by rw [List.length_take]; omega
    generalize sinSt (l.take i) = st at k1 k2 hs
    obtain ⟨ms, acc⟩ := st
    simp only at k1 k2
    generalize l[i] = d at hs hd
    simp only [List.take_of_length_le (i := ms.length) (l := ms.map Msg.row) (by simp)]
    rw [wrap64 (x := (i : Int) + 1) (by omega) (by omega)]
    repeat' first | refine And.intro ?_ ?_ | intro _
    all_goals first
      | omega
      | (simp only [List.length_nil]; omega)
      | (refine ⟨i + 1, hil, by omega, ?_⟩
         rw [hs]
         simp only [sinStep, *, if_true, if_false, Bool.false_eq_true]
         exact le_ev [] (by simp only [hm, List.map_append, Msg.row, go_sem, ↓reduceIte]; first | rfl | exact ⟨rfl, rfl⟩))
  · have : i = l.length := by omega
    subst this
    simp only [go_sem, ↓reduceIte]
    exact ⟨_, rfl, le_ev [] (by simp only [hm, List.take_length, go_sem, ↓reduceIte])⟩
def sideSaid (s : Side) : List Msg := if sideB s then said s.sent else []
theorem s_implSideSaid1 (s : Side) (hl : s.sent.length ≤ 2000000) (hx : ∀ d ∈ s.sent, d.text.length ≤ 9223372036854775807) (hv : sideB s = true) : Spec Try.prog 17 0 [] [s.ro] (New1 (.sl 0 0 (sideSaid s).length) 4 ((sideSaid s).map Msg.row)) := by
  obtain ⟨h1, h2, h3⟩ := side_ok hv
  have he : sideSaid s = (sinSt s.sent).1 := by unfold sideSaid; rw [if_pos hv, sin_said h3]
  rw [he]
  refine Spec.new1 (Q := fun r hp _ _ => r = .sl 1 0 (sinSt s.sent).1.length ∧ hget hp 1 = some (.row 4 ((sinSt s.sent).1.map Msg.row))) ?_ (fun r hp nx gs h => ⟨1, h.1, h.2⟩) (fun f g h => by simp only [go_sem, h])
  refine mk17 rfl fun c hP hm => ?_
  unfold pc17 Side.ro Side.av
  simp only [go_sem, ↓reduceIte]
  refine call_pure (hP ▸ s_implSideValid s hl hx) rfl rfl ?_
  simp only [hv, go_sem, ↓reduceIte]
  refine call_new1 (hP ▸ s_saidIn s.sent (by omega) (fun d hd => by have := h2 d hd; omega)) rfl (msgClosed _) (vws_self _ _ rfl) ?_
  simp only [go_sem, ↓reduceIte]
theorem s_implSideSaid0 (s : Side) (hl : s.sent.length ≤ 2000000) (hx : ∀ d ∈ s.sent, d.text.length ≤ 9223372036854775807) (hv : ¬ sideB s = true) : Spec Try.prog 17 0 [] [s.ro] (fun r _ _ _ => r = .r .nil) := by
  refine mk17 rfl fun c hP hm => ?_
  unfold pc17 Side.ro Side.av
  simp only [go_sem, ↓reduceIte]
  refine call_pure (hP ▸ s_implSideValid s hl hx) rfl rfl ?_
  simp only [hv, go_sem, ↓reduceIte]
end Go.Cap

/- Plain facts on the parts of a talk. -/
namespace Go.Cap
open Go Go.Proofs
set_option linter.unusedSimpArgs false
set_option linter.unusedVariables false

/-- The number of parts, as the loop of TalkValid counts them. -/
theorem manyOf_eq {t : Talk} {s : Say} (hz : 1 ≤ t.size) : manyOf t s = (manyN s.text.length t.size.toNat : Int) := by
  unfold manyOf manyN
  have e : t.size = (t.size.toNat : Int) := by omega
  rw [e]
  simp only [Int.toNat_natCast]
  rw [Int.natCast_ediv]
  congr 1
  omega
theorem talkLoop_count {t : Talk} (hz : 1 ≤ t.size) (byB : Bool) (f : Int) : ∀ (l : List Say) (a b : Int) (out : List Data), talkLoop t l a b = true → (out.length : Int) = (if byB then b else a) → (partsAcc t.size.toNat f byB l out).length ≤ 12
  | [], a, b, out, h, e => by
    simp only [talkLoop, Bool.and_eq_true, decide_eq_true_eq] at h
    simp only [partsAcc]
    cases byB <;> simp at e <;> omega
  | s :: l, a, b, out, h, e => by
    simp only [talkLoop, Bool.and_eq_true] at h
    have hm := manyOf_eq (s := s) hz
    simp only [partsAcc]
    cases hs : s.byB <;> rw [hs] at h <;> simp only [if_true, if_false, Bool.false_eq_true] at h <;> refine talkLoop_count hz byB f l _ _ _ h.2 ?_ <;> cases byB <;> simp only [if_true, if_false, Bool.false_eq_true, reduceCtorEq, List.length_append, nextParts_len] at e ⊢ <;> omega
theorem talkParts_12 (t : Talk) (byB : Bool) (hv : talkB t = true) : (talkParts t byB).length ≤ 12 := by
  obtain ⟨hsz, _⟩ := talk_ok hv
  unfold talkParts
  rw [if_pos hv]
  simp only [talkB, Bool.and_eq_true] at hv
  exact talkLoop_count hsz.1 byB _ _ 0 0 [] hv.2 (by cases byB <;> rfl)
end Go.Cap

/- The parts of a talk are those of a valid side. -/
namespace Go.Cap
open Go Go.Proofs
set_option maxRecDepth 100000
set_option linter.unusedSimpArgs false
set_option linter.unusedVariables false
attribute [local irreducible] Call Run Spec Le

theorem mayB_first {f : List Data} {d : Data} (hl : ∀ x, f.getLast? = some x → x.last = true) (hd : d.first = true) (hs : d.loose = true ∨ d.ssn = ssnIn f d.stream) : mayB f d = true := by
  unfold mayB
  cases h : f.getLast? with
  | none => simp [hd]; rcases hs with hs | hs <;> simp [hs]
  | some x =>
    have := hl x h
    simp only [this, if_true]
    simp [hd]; rcases hs with hs | hs <;> simp [hs]
theorem mayB_next {f : List Data} {x d : Data} (hl : f.getLast? = some x) (hx : x.last = false) (hd : d.first = false) (hk : likeB d x = true) : mayB f d = true := by
  unfold mayB
  rw [hl]
  simp [hx, hd, hk]
/-- Every part may follow the ones ahead of it. -/
structure Fit (f : Int) (streams : Int) (out : List Data) : Prop where
  ok : ∀ i (hi : i < out.length), dataB out[i] = true ∧ out[i].tsn = l3 f i ∧ out[i].stream < streams ∧ mayB (out.take i) out[i] = true
  last : ∀ x, out.getLast? = some x → x.last = true
theorem Fit.next {z : Nat} (hz : 1 ≤ z ∧ z ≤ 20) {f streams : Int} {out : List Data} (h : Fit f streams out) (ho : out.length ≤ 60000) {s : Say} (h1 : 1 ≤ s.text.length) (hs : 0 ≤ s.stream ∧ s.stream < streams) (hs4 : streams ≤ 4) : Fit f streams (out ++ nextParts z f out s) := by
  have hnl : (nextParts z f out s).length = manyN s.text.length z := nextParts_len ..
  refine ⟨fun i hi => ?_, fun x hx => ?_⟩
  · rcases Nat.lt_or_ge i out.length with hio | hio
    · rw [List.getElem_append_left hio, List.take_append_of_le_length (by omega)]
      exact h.ok i hio
    · obtain ⟨j, rfl⟩ : ∃ j, i = out.length + j := ⟨i - out.length, by omega⟩
      have hj : j < manyN s.text.length z := by rw [List.length_append, hnl] at hi; omega
      have hget : (out ++ nextParts z f out s)[out.length + j] = part z (l3 f out.length) (ssnOf out s) s j := by
        have h2 : (out ++ nextParts z f out s)[out.length + j]? = some (part z (l3 f out.length) (ssnOf out s) s j) := by
          rw [List.getElem?_append_right (by omega), Nat.add_sub_cancel_left]; exact chunks_get hj
        rw [List.getElem?_eq_getElem hi] at h2
        exact Option.some.inj h2
      have htake : (out ++ nextParts z f out s).take (out.length + j) = out ++ (nextParts z f out s).take j := by
        rw [List.take_append, List.take_of_length_le (by omega), Nat.add_sub_cancel_left]
      rw [hget, htake]
      have hlt := (many_lt hz.1).1 hj
      have hadd : (j + 1) * z = j * z + z := by rw [Nat.add_mul, Nat.one_mul]
      have hssn := ssnIn_le out s.stream
      have hrange := l3_range (l3 f out.length) j
      refine ⟨?_, ?_, hs.2, ?_⟩
      · have k1 : serialB (l3 (l3 f out.length) j) = true := serial_l3 _ _
        have k2 : serialB s.stream = true := by simp only [serialB, decide_eq_true_eq]; omega
        have k3 : serialB (ssnOf out s) = true := by unfold ssnOf; simp only [serialB, decide_eq_true_eq]; split <;> omega
        have k4 : 1 ≤ (part z (l3 f out.length) (ssnOf out s) s j).text.length ∧ (part z (l3 f out.length) (ssnOf out s) s j).text.length ≤ 20 := by
          simp only [part, List.length_drop, List.length_take]; omega
        unfold dataB
        rw [decide_eq_true k4]
        show (serialB (l3 (l3 f out.length) j) && serialB s.stream && serialB (ssnOf out s) && true) = true
        rw [k1, k2, k3]; rfl
      · simp only [part, l3_l3]; congr 1
      · cases j with
        | zero =>
          rw [List.take_zero, List.append_nil]
          refine mayB_first h.last (by simp [part]) ?_
          simp only [part, ssnOf]
          cases s.loose <;> simp
        | succ j =>
          have hj' : j < manyN s.text.length z := by omega
          refine mayB_next (x := part z (l3 f out.length) (ssnOf out s) s j) ?_ ?_ (by simp [part]) (by simp [likeB, part])
          · rw [show (nextParts z f out s).take (j + 1) = (nextParts z f out s).take j ++ [part z (l3 f out.length) (ssnOf out s) s j] from take_chunks hj', ← List.append_assoc]
            exact List.getLast?_concat
          · simp only [part, decide_eq_false_iff_not]; omega
  · have hm : 0 < manyN s.text.length z := (many_lt hz.1).2 (by omega)
    obtain ⟨m, hmm⟩ : ∃ m, manyN s.text.length z = m + 1 := ⟨manyN s.text.length z - 1, by omega⟩
    have hn : ¬ (m + 1) * z < s.text.length := fun h => by have := (many_lt hz.1).2 h; omega
    unfold nextParts chunks at hx
    rw [hmm, List.range_succ, List.map_append, ← List.append_assoc, List.map_cons, List.map_nil, List.getLast?_concat] at hx
    cases hx
    simp only [part, decide_eq_true_eq]; omega
theorem fit_parts {z : Nat} (hz : 1 ≤ z ∧ z ≤ 20) {f streams : Int} (hs4 : streams ≤ 4) {byB : Bool} : ∀ (l : List Say) (out : List Data), (∀ s ∈ l, s.byB = byB → 1 ≤ s.text.length ∧ s.text.length ≤ 60 ∧ 0 ≤ s.stream ∧ s.stream < streams) → out.length + 60 * l.length ≤ 60000 → Fit f streams out → Fit f streams (partsAcc z f byB l out)
  | [], out, _, _, h => h
  | s :: l, out, hl, hb, h => by
    have hl' : ∀ x ∈ l, x.byB = byB → 1 ≤ x.text.length ∧ x.text.length ≤ 60 ∧ 0 ≤ x.stream ∧ x.stream < streams := fun x hx => hl x (List.mem_cons_of_mem _ hx)
    rw [List.length_cons] at hb
    simp only [partsAcc]
    split
    · rename_i hbb
      obtain ⟨q1, q2, q3, q4⟩ := hl s (List.mem_cons_self ..) hbb
      have ml := many_le2 (n := s.text.length) hz.1
      exact fit_parts hz hs4 l _ hl' (by rw [List.length_append, nextParts_len]; omega) (h.next hz (by omega) q1 ⟨q3, q4⟩ hs4)
    · exact fit_parts hz hs4 l _ hl' (by omega) h
def Talk.init (t : Talk) (byB : Bool) : Init := if byB then t.b else t.a
def talkSide (t : Talk) (byB : Bool) : Side := ⟨(t.init byB).tag, (t.init byB).streams, (t.init byB).tsn, talkParts t byB, (talkParts t byB).length⟩
theorem init_ok {t : Talk} (hv : talkB t = true) (byB : Bool) : initB (t.init byB) = true := by
  simp only [talkB, talkHead, Bool.and_eq_true] at hv
  cases byB
  · exact hv.1.1.1.1.2
  · exact hv.1.1.1.2
theorem talk_fit {t : Talk} (hv : talkB t = true) (byB : Bool) : Fit (t.init byB).tsn (t.init byB).streams (talkParts t byB) := by
  obtain ⟨hsz, hlen, hsays, hta, htb, hsa, hsb⟩ := talk_ok hv
  unfold talkParts
  rw [if_pos hv]
  have e : t.tsn byB = (t.init byB).tsn := by cases byB <;> rfl
  rw [e]
  refine fit_parts (by omega) ?_ t.says [] ?_ (by simp only [List.length_nil]; omega) ⟨fun i hi => by simp at hi, fun x hx => by simp at hx⟩
  · cases byB <;> simp [Talk.init] <;> omega
  · intro s hs hb
    have := hsays s hs
    rw [hb] at this
    cases byB <;> simpa [Talk.init] using this
theorem sideLoop_of {add : Int → Int → Int} {s : Side} : ∀ (l : List Data) (i : Nat), (∀ j (hj : j < l.length), partB add s (i + j) l[j] = true) → sideLoop add s i l = true
  | [], i, h => rfl
  | d :: l, i, h => by
    simp only [sideLoop, Bool.and_eq_true]
    refine ⟨h 0 (by simp), sideLoop_of l (i + 1) fun j hj => ?_⟩
    have := h (j + 1) (by simpa using hj)
    simpa [Nat.add_assoc, Nat.add_comm 1 j] using this
theorem talkSide_ok {t : Talk} (hv : talkB t = true) (byB : Bool) : sideB (talkSide t byB) = true := by
  have h12 := talkParts_12 t byB hv
  have hi := init_ok hv byB
  have hf := talk_fit hv byB
  simp only [initB, Bool.and_eq_true, decide_eq_true_eq] at hi
  obtain ⟨⟨⟨i1, i2, i3, i4⟩, _⟩, i6⟩ := hi
  have hl : sideLoop l3 (talkSide t byB) 0 (talkSide t byB).sent = true := by
    refine sideLoop_of _ 0 fun j hj => ?_
    obtain ⟨k1, k2, k3, k4⟩ := hf.ok j hj
    simp only [partB, Nat.zero_add, Bool.and_eq_true, beq_iff_eq, decide_eq_true_eq]
    exact ⟨⟨⟨k1, k2⟩, k3⟩, k4⟩
  unfold sideB
  rw [if_neg (by simp only [talkSide]; omega), hl]
  have j1 : 1 ≤ (talkSide t byB).tag ∧ (talkSide t byB).tag ≤ 4294967295 := ⟨i1, i2⟩
  have j2 : 1 ≤ (talkSide t byB).streams ∧ (talkSide t byB).streams ≤ 4 := ⟨i3, i4⟩
  have j3 : serialB (talkSide t byB).first = true := i6
  have j4 : (talkSide t byB).sent.length ≤ 12 := h12
  have j5 : 0 ≤ (talkSide t byB).acked ∧ (talkSide t byB).acked ≤ (talkSide t byB).sent.length := by simp only [talkSide]; omega
  unfold headB
  rw [decide_eq_true j1, decide_eq_true j2, j3, decide_eq_true j4, decide_eq_true j5]
  rfl
end Go.Cap

/- Plain model: numbers as bytes, sums, chunks, packets, records. -/
namespace Go.Cap
open Go Go.Proofs
set_option linter.unusedSimpArgs false
set_option linter.unusedVariables false

def u8 (x : Int) : UInt8 := UInt8.ofNat x.toNat
def word (n : Int) : List UInt8 := [u8 (n / 256), u8 (n % 256)]
def long (n : Int) : List UInt8 := word (n / 65536) ++ word (n % 65536)
theorem u8_nat {x : Int} (h : 0 ≤ x ∧ x < 256) : ((u8 x).toNat : Int) = x := by
  unfold u8
  rw [UInt8.toNat_ofNat']
  omega
def at2 (s : List UInt8) (i : Nat) : Int := 256 * (s.getD i 0).toNat + (s.getD (i + 1) 0).toNat
theorem byte_lt (b : UInt8) : (b.toNat : Int) < 256 := by have := b.toNat_lt; omega
theorem at2_range (s : List UInt8) (i : Nat) : 0 ≤ at2 s i ∧ at2 s i < 65536 := by
  have h1 := byte_lt (s.getD i 0)
  have h2 := byte_lt (s.getD (i + 1) 0)
  unfold at2; omega
theorem at2_word {n : Int} (h : 0 ≤ n ∧ n < 65536) (a b : List UInt8) : at2 (a ++ word n ++ b) a.length = n := by
  unfold at2 word
  have e1 : (a ++ [u8 (n / 256), u8 (n % 256)] ++ b).getD a.length 0 = u8 (n / 256) := by
    rw [List.append_assoc, List.getD_eq_getElem?_getD, List.getElem?_append_right (Nat.le_refl _), Nat.sub_self]; rfl
  have e2 : (a ++ [u8 (n / 256), u8 (n % 256)] ++ b).getD (a.length + 1) 0 = u8 (n % 256) := by
    rw [List.append_assoc, List.getD_eq_getElem?_getD, List.getElem?_append_right (by omega), Nat.add_sub_cancel_left]; rfl
  rw [e1, e2, u8_nat (by omega), u8_nat (by omega)]
  omega
/-- The sum. -/
def adl : List UInt8 → Int → Int → Int × Int
  | [], a, b => (a, b)
  | c :: l, a, b => adl l ((a + c.toNat) % 65521) ((b + (a + c.toNat) % 65521) % 65521)
def sumOf (s : List UInt8) : Int := 65536 * (adl s 1 0).2 + (adl s 1 0).1
theorem adl_range : ∀ (s : List UInt8) (a b : Int), (0 ≤ a ∧ a < 65521) → (0 ≤ b ∧ b < 65521) → (0 ≤ (adl s a b).1 ∧ (adl s a b).1 < 65521) ∧ (0 ≤ (adl s a b).2 ∧ (adl s a b).2 < 65521)
  | [], a, b, ha, hb => ⟨ha, hb⟩
  | c :: l, a, b, ha, hb => adl_range l _ _ (by omega) (by omega)
theorem sumOf_range (s : List UInt8) : 0 ≤ sumOf s ∧ sumOf s < 4294967296 := by
  have := adl_range s 1 0 (by omega) (by omega)
  unfold sumOf; omega
theorem adl_take {s : List UInt8} {i : Nat} (h : i < s.length) (a b : Int) : adl (s.take (i + 1)) a b = (((adl (s.take i) a b).1 + s[i].toNat) % 65521, ((adl (s.take i) a b).2 + ((adl (s.take i) a b).1 + s[i].toNat) % 65521) % 65521) := by
  induction s generalizing i a b with
  | nil => simp at h
  | cons c s ih =>
    cases i with
    | zero => simp [adl]
    | succ i =>
      rw [List.take_succ_cons, List.take_succ_cons, adl, adl, ih (by simpa using h)]
      rfl
structure Chunk where
  kind : Int
  flags : Int
  body : List UInt8
  deriving Inhabited
def Chunk.row (c : Chunk) : List RV := [.n .i64 c.kind, .n .i64 c.flags, .s c.body]
def Chunk.av (c : Chunk) : AV := .agg [.i c.kind, .i c.flags, .st c.body]
def chunkB (c : Chunk) : Bool := inB c.kind 0 255 && inB c.flags 0 255 && decide (c.body.length ≤ 60)
def padN (n : Nat) : Nat := (4 - n % 4) % 4
def chunkPut (c : Chunk) : List UInt8 := [u8 c.kind, u8 c.flags] ++ word (4 + c.body.length : Nat) ++ c.body ++ List.replicate (padN c.body.length) 0
theorem chunkPut_len (c : Chunk) : (chunkPut c).length = 4 + c.body.length + padN c.body.length := by
  unfold chunkPut word
  simp only [List.length_append, List.length_replicate, List.length_cons, List.length_nil]
theorem padN_lt (n : Nat) : padN n < 4 ∧ (n + padN n) % 4 = 0 := by unfold padN; omega
structure Packet where
  fr : Int
  to : Int
  tag : Int
  chunks : List Chunk
  deriving Inhabited
def Packet.ro (p : Packet) : AV := .agg [.i p.fr, .i p.to, .i p.tag, .r (.ro none (p.chunks.map Chunk.row))]
def Packet.row (p : Packet) : List RV := [.n .i64 p.fr, .n .i64 p.to, .n .i64 p.tag, .ro none (p.chunks.map Chunk.row)]
def packB (p : Packet) : Bool := inB p.fr 1 65535 && inB p.to 1 65535 && decide (p.fr ≠ p.to) && inB p.tag 0 4294967295 && decide (1 ≤ p.chunks.length ∧ p.chunks.length ≤ 4) && p.chunks.all chunkB
def packHead (p : Packet) : List UInt8 := word p.fr ++ word p.to ++ long p.tag
def packRest (p : Packet) : List UInt8 := p.chunks.flatMap chunkPut
def packRaw (p : Packet) : List UInt8 := packHead p ++ long (sumOf (packHead p ++ [0, 0, 0, 0] ++ packRest p)) ++ packRest p
def packPut (p : Packet) : List UInt8 := if packB p then packRaw p else []
def bit (b : Bool) (n : Int) : Int := if b then n else 0
def dataPut (d : Data) : Chunk := ⟨0, bit d.last 1 + bit d.first 2 + bit d.loose 4, word d.tsn ++ word d.stream ++ word d.ssn ++ d.text⟩
def initPut (x : Init) (ans : Bool) : Chunk := ⟨if ans then 2 else 1, 0, long x.tag ++ word x.window ++ word x.streams ++ word x.tsn⟩
structure Gap where
  fr : Int
  to : Int
  deriving Inhabited
def Gap.row (g : Gap) : List RV := [.n .i64 g.fr, .n .i64 g.to]
structure Sack where
  cum : Int
  gaps : List Gap
  deriving Inhabited
def gapsB : Int → List Gap → Bool
  | _, [] => true
  | last, g :: l => decide (last + 2 ≤ g.fr ∧ g.fr ≤ g.to ∧ g.to ≤ 16) && gapsB g.to l
def sackB (s : Sack) : Bool := serialB s.cum && decide (s.gaps.length ≤ 8) && gapsB 0 s.gaps
def sackPut (s : Sack) : Chunk := ⟨3, 0, word s.cum ++ s.gaps.flatMap fun g => word g.fr ++ word g.to⟩
/-- All parts of a talk, in the order in which they are said, with their sides. -/
def talkAll (z : Nat) (ta tb : Int) : List Say → List Data → List Data → List (Bool × Data)
  | [], _, _ => []
  | s :: l, oa, ob => if s.byB then (nextParts z tb ob s).map (fun d => (true, d)) ++ talkAll z ta tb l oa (ob ++ nextParts z tb ob s)
    else (nextParts z ta oa s).map (fun d => (false, d)) ++ talkAll z ta tb l (oa ++ nextParts z ta oa s) ob
def onePk (t : Talk) (byB : Bool) (c : Chunk) : Packet := if byB then ⟨t.to, t.fr, t.a.tag, [c]⟩ else ⟨t.fr, t.to, t.b.tag, [c]⟩
def hello (t : Talk) : List Packet := [⟨t.fr, t.to, 0, [initPut t.a false]⟩, onePk t true (initPut t.b true), onePk t false ⟨10, 0, []⟩, onePk t true ⟨11, 0, []⟩]
def saysPk (t : Talk) (l : List (Bool × Data)) : List Packet := l.flatMap fun x => [onePk t x.1 (dataPut x.2), onePk t (!x.1) (sackPut ⟨x.2.tsn, []⟩)]
def bye (t : Talk) : List Packet := [onePk t false ⟨7, 0, []⟩, onePk t true ⟨8, 0, []⟩, onePk t false ⟨14, 0, []⟩]
def Talk.all (t : Talk) : List (Bool × Data) := talkAll t.size.toNat t.a.tsn t.b.tsn t.says [] []
def talkPk (t : Talk) : List Packet := if talkB t then hello t ++ saysPk t t.all ++ bye t else []
structure Rec where
  time : Int
  text : List UInt8
  deriving Inhabited
def Rec.row (x : Rec) : List RV := [.n .i64 x.time, .s x.text]
def Rec.av (x : Rec) : AV := .agg [.i x.time, .st x.text]
def recsFrom : Int → List Rec → Bool
  | _, [] => true
  | last, x :: l => inB x.time last 4294967295 && decide (x.text.length ≤ 120) && recsFrom x.time l
def captB (l : List Rec) : Bool := recsFrom 0 l && decide (l.length ≤ 60)
def recsOf (l : List Packet) (begin : Int) : List Rec := (List.range l.length).map fun (i : Nat) => ⟨begin + (i : Int), packPut (l.getD i default)⟩
def talkRecs (t : Talk) (begin : Int) : List Rec := if 0 ≤ begin ∧ captB (recsOf (talkPk t) begin) then recsOf (talkPk t) begin else []
end Go.Cap

/- Plain model: associations, findings, monitors; reading packets. -/
namespace Go.Cap
open Go Go.Proofs
set_option linter.unusedSimpArgs false
set_option linter.unusedVariables false

structure Assoc where
  fr : Int
  to : Int
  state : Int
  byB : Bool
  a : Side
  b : Side
def Assoc.cellsX (a : Assoc) (x y : RV) : List RV := [.n .i64 a.fr, .n .i64 a.to, .n .i64 a.state, .b a.byB, .n .i64 a.a.tag, .n .i64 a.a.streams, .n .i64 a.a.first, x, .n .i64 a.a.acked, .n .i64 a.b.tag, .n .i64 a.b.streams, .n .i64 a.b.first, y, .n .i64 a.b.acked]
def Assoc.row (a : Assoc) : List RV := a.cellsX (.ro none (a.a.sent.map Data.row)) (.ro none (a.b.sent.map Data.row))
def Assoc.av (a : Assoc) (x y : AV) : AV := .agg [.i a.fr, .i a.to, .i a.state, .bo a.byB, .i a.a.tag, .i a.a.streams, .i a.a.first, x, .i a.a.acked, .i a.b.tag, .i a.b.streams, .i a.b.first, y, .i a.b.acked]
def Assoc.ro (a : Assoc) : AV := a.av (.r (.ro none (a.a.sent.map Data.row))) (.r (.ro none (a.b.sent.map Data.row)))
def assocB (a : Assoc) : Bool :=
  inB a.fr 1 65535 && inB a.to 1 65535 && decide (a.fr ≠ a.to) && inB a.state 0 7 && sideB a.a && sideB a.b && (decide (0 < a.a.tag) == decide (1 ≤ a.state)) &&
  (decide (a.state = 7) || (decide (0 < a.b.tag) == decide (2 ≤ a.state))) && (decide (3 ≤ a.state) || decide (a.a.sent.length + a.b.sent.length = 0)) && (!a.byB || decide (5 ≤ a.state))
theorem assocB_iff {a : Assoc} : assocB a = true ↔ (1 ≤ a.fr ∧ a.fr ≤ 65535) ∧ (1 ≤ a.to ∧ a.to ≤ 65535) ∧ a.fr ≠ a.to ∧ (0 ≤ a.state ∧ a.state ≤ 7) ∧ sideB a.a = true ∧ sideB a.b = true ∧ (0 < a.a.tag ↔ 1 ≤ a.state) ∧
    (a.state = 7 ∨ (0 < a.b.tag ↔ 2 ≤ a.state)) ∧ (3 ≤ a.state ∨ a.a.sent.length + a.b.sent.length = 0) ∧ (a.byB = false ∨ 5 ≤ a.state) := by
  simp only [assocB, inB, Bool.and_eq_true, Bool.or_eq_true, decide_eq_true_eq, beq_iff_eq, decide_eq_decide, Bool.not_eq_true']
  constructor
  · rintro ⟨⟨⟨⟨⟨⟨⟨⟨⟨h1, h2⟩, h3⟩, h4⟩, h5⟩, h6⟩, h7⟩, h8⟩, h9⟩, h10⟩
    exact ⟨h1, h2, h3, h4, h5, h6, h7, h8, h9, h10⟩
  · rintro ⟨h1, h2, h3, h4, h5, h6, h7, h8, h9, h10⟩
    exact ⟨⟨⟨⟨⟨⟨⟨⟨⟨h1, h2⟩, h3⟩, h4⟩, h5⟩, h6⟩, h7⟩, h8⟩, h9⟩, h10⟩
structure Fnd where
  rcd : Int
  code : Int
  deriving Inhabited
def Fnd.row (f : Fnd) : List RV := [.n .i64 f.rcd, .n .i64 f.code]
def Fnd.av (f : Fnd) : AV := .agg [.i f.rcd, .i f.code]
structure Mon where
  records : Int
  list : List Assoc
  found : List Fnd
def Mon.ro (m : Mon) : AV := .agg [.i m.records, .r (.ro none (m.list.map Assoc.row)), .r (.ro none (m.found.map Fnd.row))]
def fndB (n : Int) (f : Fnd) : Bool := inB f.rcd 0 (n - 1) && (inB f.code 1 11 || inB f.code 101 105)
def lessB (a b : Fnd) : Bool := decide (a.rcd < b.rcd ∨ (a.rcd = b.rcd ∧ a.code < b.code))
/-- All numbers below one. -/
def allB (n : Nat) (p : Nat → Bool) : Bool := (List.range n).all p
theorem allB_true {n : Nat} {p : Nat → Bool} (h : ∀ i, i < n → p i = true) : allB n p = true := List.all_eq_true.2 fun i hi => h i (List.mem_range.1 hi)
theorem allB_false {n : Nat} {p : Nat → Bool} {i : Nat} (hi : i < n) (h : p i = false) : allB n p = false := by
  rw [Bool.eq_false_iff]
  intro h2
  have := List.all_eq_true.1 h2 i (List.mem_range.2 hi)
  rw [h] at this; cases this
theorem allB_iff {n : Nat} {p : Nat → Bool} : allB n p = true ↔ ∀ i, i < n → p i = true := ⟨fun h i hi => List.all_eq_true.1 h i (List.mem_range.2 hi), allB_true⟩
def noSide : Side := ⟨0, 0, 0, [], 0⟩
def noAssoc : Assoc := ⟨0, 0, 0, false, noSide, noSide⟩
def assocAt (l : List Assoc) (i : Nat) : Assoc := l.getD i noAssoc
def fndAt (l : List Fnd) (i : Nat) : Fnd := l.getD i default
theorem assocAt_eq {l : List Assoc} {i : Nat} (h : i < l.length) : assocAt l i = l[i] := by simp [assocAt, List.getD_eq_getElem?_getD, h]
theorem fndAt_eq {l : List Fnd} {i : Nat} (h : i < l.length) : fndAt l i = l[i] := by simp [fndAt, List.getD_eq_getElem?_getD, h]
def foundOne (n : Int) (l : List Fnd) (i : Nat) : Bool := fndB n (fndAt l i) && (decide (i = 0) || lessB (fndAt l (i - 1)) (fndAt l i))
def foundB (n : Int) (l : List Fnd) : Bool := allB l.length (foundOne n l)
def pairB (a : Assoc) (fr to : Int) : Bool := decide ((a.fr = fr ∧ a.to = to) ∨ (a.fr = to ∧ a.to = fr))
def listOne (l : List Assoc) (i : Nat) : Bool := assocB (assocAt l i) && decide ((assocAt l i).state ≠ 0) && allB i fun k => !pairB (assocAt l k) (assocAt l i).fr (assocAt l i).to
def listB (l : List Assoc) : Bool := allB l.length (listOne l)
def monB (m : Mon) : Bool := inB m.records 0 60 && decide (m.list.length ≤ 3) && listB m.list && foundB m.records m.found
/-- The index of the first association between two ports. -/
def findIx (fr to : Int) : List Assoc → Option Nat
  | [] => none
  | a :: l => if pairB a fr to then some 0 else (findIx fr to l).map (· + 1)
end Go.Cap

/- Plain model: reading chunks and packets; steps of associations and monitors. -/
namespace Go.Cap
open Go Go.Proofs
set_option linter.unusedSimpArgs false
set_option linter.unusedVariables false

def at4 (s : List UInt8) (i : Nat) : Int := 65536 * at2 s i + at2 s (i + 2)
def byteAt (s : List UInt8) (i : Nat) : Int := (s.getD i 0).toNat
def endAt (s : List UInt8) (i : Nat) : Nat := i + ((at2 s (i + 2)).toNat + 3) / 4 * 4
def chunkAt (s : List UInt8) (i : Nat) : Chunk := ⟨byteAt s i, byteAt s (i + 1), (s.drop (i + 4)).take ((at2 s (i + 2)).toNat - 4)⟩
def chunkOk (s : List UInt8) (i : Nat) : Bool := decide (i + 4 ≤ s.length) && inB (at2 s (i + 2)) 4 64 && decide (endAt s i ≤ s.length) && ((s.take (endAt s i)).drop (i + (at2 s (i + 2)).toNat)).all (· == 0)
def chunksGet : Nat → List UInt8 → Nat → Option (List Chunk)
  | 0, _, _ => none
  | f + 1, s, i => if s.length ≤ i then some [] else if chunkOk s i then (chunksGet f s (endAt s i)).map (chunkAt s i :: ·) else none
def noPack : Packet := ⟨0, 0, 0, []⟩
def packOf (s : List UInt8) (l : List Chunk) : Packet := ⟨at2 s 0, at2 s 2, at4 s 4, l⟩
def packGet (s : List UInt8) : Packet × Int :=
  if s.length < 12 then (noPack, 1)
  else if at4 s 8 ≠ sumOf (s.take 8 ++ [0, 0, 0, 0] ++ s.drop 12) then (noPack, 2)
  else match chunksGet s.length s 12 with
    | none => (noPack, 3)
    | some l => if packB (packOf s l) then (packOf s l, 0) else (noPack, 3)
def aloneK (k : Int) : Bool := decide (k = 1 ∨ k = 2 ∨ k = 14)
def aloneB (p : Packet) : Bool := packB p && (decide (p.chunks.length = 1) || p.chunks.all fun c => !aloneK c.kind)
def noData : Data := ⟨0, 0, 0, false, false, false, []⟩
def dataOf (c : Chunk) : Data := ⟨at2 c.body 0, at2 c.body 2, at2 c.body 4, decide (c.flags / 2 % 2 = 1), decide (c.flags % 2 = 1), decide (c.flags / 4 = 1), c.body.drop 6⟩
def dataGet (c : Chunk) : Option Data := if decide (c.kind = 0) && inB c.flags 0 7 && decide (6 ≤ c.body.length) && dataB (dataOf c) then some (dataOf c) else none
def noInit : Init := ⟨0, 0, 0, 0⟩
def initOf (c : Chunk) : Init := ⟨at4 c.body 0, at2 c.body 4, at2 c.body 6, at2 c.body 8⟩
def initGet (c : Chunk) : Option Init := if decide (c.kind = 1 ∨ c.kind = 2) && decide (c.flags = 0) && decide (c.body.length = 10) && initB (initOf c) then some (initOf c) else none
def gapsOf : List UInt8 → List Gap
  | a :: b :: c :: d :: l => ⟨256 * a.toNat + b.toNat, 256 * c.toNat + d.toNat⟩ :: gapsOf l
  | _ => []
def sackOf (c : Chunk) : Sack := ⟨at2 c.body 0, gapsOf (c.body.drop 2)⟩
def sackGet (c : Chunk) : Option Sack := if decide (c.kind = 3) && decide (c.flags = 0) && decide (c.body.length % 4 = 2) && sackB (sackOf c) then some (sackOf c) else none
/-- Steps of an association. -/
def Assoc.own (a : Assoc) (byB : Bool) : Side := if byB then a.b else a.a
def Assoc.other (a : Assoc) (byB : Bool) : Side := if byB then a.a else a.b
def Assoc.put (a : Assoc) (byB : Bool) (s : Side) : Assoc := if byB then { a with b := s } else { a with a := s }
def l3d (a b : Int) : Int := if 32768 < l3 b (-a) then l3 b (-a) - 65536 else l3 b (-a)
def stepInit (a : Assoc) (byB : Bool) (c : Chunk) : Assoc × Int :=
  let first := (decide (a.state = 0) && !byB && decide (c.kind = 1)) || (decide (a.state = 1) && byB && decide (c.kind = 2))
  let again := (inB a.state 1 2 && !byB && decide (c.kind = 1)) || (decide (a.state = 2) && byB && decide (c.kind = 2))
  if !first && !again then (a, 3)
  else match initGet c with
    | none => (a, 4)
    | some x => if again then (if x.tag ≠ (a.own byB).tag ∨ x.streams ≠ (a.own byB).streams ∨ x.tsn ≠ (a.own byB).first then (a, 7) else (a, 0))
      else (({ a with state := a.state + 1 } : Assoc).put byB ⟨x.tag, x.streams, x.tsn, [], 0⟩, 0)
/-- Two parts that are alike in all. -/
def eqData (x y : Data) : Bool := x.tsn == y.tsn && (x.stream == y.stream && (x.ssn == y.ssn && (x.first == y.first && (x.last == y.last && (x.loose == y.loose && x.text == y.text)))))
theorem eqData_iff {x y : Data} : eqData x y = true ↔ x = y := by
  obtain ⟨a, b, c, d, e, f, g⟩ := x
  obtain ⟨a', b', c', d', e', f', g'⟩ := y
  simp [eqData]
def stepData (a : Assoc) (byB : Bool) (c : Chunk) : Assoc × Int :=
  let s := a.own byB
  let mayNew := decide (a.state = 4) || (decide (a.state = 3) && !byB)
  let mayOld := mayNew || (decide (a.state = 5) && byB != a.byB)
  if !mayOld then (a, 3)
  else match dataGet c with
    | none => (a, 4)
    | some d =>
      let k := l3 d.tsn (-s.first)
      if k < s.sent.length then (if eqData (s.sent.getD k.toNat noData) d then (a, 0) else (a, 7))
      else if !mayNew then (a, 3)
      else if s.streams ≤ d.stream then (a, 5)
      else if s.sent.length < k then (a, 6)
      else if !mayB s.sent d then (a, 8)
      else if 12 ≤ s.sent.length then (a, 11)
      else (a.put byB { s with sent := s.sent ++ [d] }, 0)
def lastTo (l : List Gap) : Int := match l.getLast? with | none => 0 | some g => g.to
def stepSack (a : Assoc) (byB : Bool) (c : Chunk) : Assoc × Int :=
  let o := a.other byB
  if !inB a.state 4 5 then (a, 3)
  else match sackGet c with
    | none => (a, 4)
    | some x =>
      let e := l3d (l3 o.first (-1)) x.cum
      if !inB e 0 o.sent.length || decide ((o.sent.length : Int) < e + lastTo x.gaps) then (a, 9)
      else (a.put (!byB) { o with acked := max o.acked e }, 0)
def stepEnd (a : Assoc) (byB : Bool) (k : Int) : Assoc × Int :=
  let s := a.own byB
  let done := decide (s.acked = s.sent.length)
  if k = 6 then (if inB a.state 1 6 then ({ a with state := 7 }, 0) else (a, 3))
  else if k = 7 then (if a.state = 4 then (if done then ({ a with state := 5, byB := byB }, 0) else (a, 10)) else if inB a.state 5 6 && byB == a.byB then (a, 0) else (a, 3))
  else if k = 8 then (if inB a.state 5 6 && byB != a.byB then (if a.state = 5 && !done then (a, 10) else ({ a with state := 6 }, 0)) else (a, 3))
  else (if a.state = 6 && byB == a.byB then ({ a with state := 7 }, 0) else (a, 3))
def stepRest (a : Assoc) (byB : Bool) (k : Int) : Assoc × Int :=
  if k = 10 then (if !byB && inB a.state 2 4 then ({ a with state := max a.state 3 }, 0) else (a, 3))
  else if k = 11 then (if byB && inB a.state 3 4 then ({ a with state := 4 }, 0) else (a, 3))
  else if k = 4 ∨ k = 5 ∨ k = 9 then (if inB a.state 3 6 then (a, 0) else (a, 3))
  else (a, 3)
def stepChunk (a : Assoc) (byB : Bool) (c : Chunk) : Assoc × Int :=
  if c.kind = 1 ∨ c.kind = 2 then stepInit a byB c
  else if c.kind = 0 then stepData a byB c
  else if c.kind = 3 then stepSack a byB c
  else if c.kind = 6 ∨ c.kind = 7 ∨ c.kind = 8 ∨ c.kind = 14 then stepEnd a byB c.kind
  else stepRest a byB c.kind
def stepChunks (byB : Bool) : List Chunk → Assoc → List Int → Assoc × List Int
  | [], a, rs => (a, rs)
  | c :: l, a, rs => stepChunks byB l (stepChunk a byB c).1 (rs ++ [(stepChunk a byB c).2])
def tagOf (a : Assoc) (byB : Bool) (p : Packet) : Int := if p.chunks.any (fun c => decide (c.kind = 1)) then 0 else (a.other byB).tag
def brokenB (a : Assoc) (byB : Bool) (p : Packet) (rs : List Int) (k : Nat) : Bool := (k == 1 && !aloneB p) || (k == 2 && decide (p.tag ≠ tagOf a byB p)) || rs.contains (k : Int)
def rulesOf (b : Nat → Bool) : List Int := ((List.range 12).filter fun k => decide (1 ≤ k) && b k).map fun (k : Nat) => (k : Int)
def byBOf (a : Assoc) (p : Packet) : Bool := decide (p.fr = a.to ∧ p.to = a.fr)
def assocStep (a : Assoc) (p : Packet) : Assoc × List Int :=
  if !assocB a || !packB p || (!byBOf a p && decide (p.fr ≠ a.fr ∨ p.to ≠ a.to)) then (noAssoc, [])
  else
    let x := stepChunks (byBOf a p) p.chunks a []
    let rules := rulesOf (brokenB a (byBOf a p) p x.2)
    (if rules.isEmpty then x.1 else a, rules)
/-- Steps of a monitor. -/
def noMon : Mon := ⟨0, [], []⟩
def note (m : Mon) (codes : List Int) : Mon := { m with found := m.found ++ codes.map fun c => ⟨m.records - 1, c⟩ }
def dropAt (l : List Assoc) (k : Nat) : List Assoc := l.take k ++ l.drop (k + 1)
def kind0 (p : Packet) : Int := (p.chunks.getD 0 default).kind
def beginMon (m : Mon) (p : Packet) : Mon :=
  let x := assocStep ⟨p.fr, p.to, 0, false, noSide, noSide⟩ p
  if kind0 p ≠ 1 then note m [104]
  else if !x.2.isEmpty then note m x.2
  else if 3 ≤ m.list.length then note m [105]
  else { m with list := m.list ++ [x.1] }
def againB (a : Assoc) (p : Packet) : Bool := decide (a.state = 7) && decide (kind0 p = 1) && aloneB p && decide (p.tag = 0) && (initGet (p.chunks.getD 0 default)).isSome
def stepMon (m : Mon) (text : List UInt8) : Mon :=
  let out : Mon := { m with records := m.records + 1 }
  match packGet text with
  | (p, code) =>
    if code ≠ 0 then note out [100 + code]
    else match findIx p.fr p.to m.list with
      | none => beginMon out p
      | some k =>
        let a := assocAt m.list k
        if againB a p then beginMon { out with list := dropAt m.list k } p
        else note { out with list := m.list.set k (assocStep a p).1 } (assocStep a p).2
def monStep (m : Mon) (text : List UInt8) : Mon := if monB m && decide (m.records < 60) then stepMon m text else noMon
def monRun (l : List Rec) : Mon := if captB l then l.foldl (fun m x => stepMon m x.text) noMon else noMon
end Go.Cap

/- Contracts: where a part lies; a valid assembly. -/
namespace Go.Cap
open Go Go.Proofs
set_option maxRecDepth 100000
set_option linter.unusedSimpArgs false
set_option linter.unusedVariables false
attribute [local irreducible] Call Run Spec Le

/-- The index of the first part with a number. -/
def atIx : List Data → Int → Option Nat
  | [], _ => none
  | d :: l, x => if d.tsn = x then some 0 else (atIx l x).map (· + 1)
def ixI : Option Nat → Int
  | some i => i
  | none => -1
theorem atIx_spec : ∀ (l : List Data) (x : Int), (∀ i, atIx l x = some i ↔ ∃ h : i < l.length, l[i].tsn = x ∧ ∀ j (hj : j < i), l[j].tsn ≠ x)
  | [], x, i => by simp [atIx]
  | d :: l, x, i => by
    simp only [atIx]
    by_cases hd : d.tsn = x
    · rw [if_pos hd]
      constructor
      · intro h; cases h; exact ⟨by simp, hd, fun j hj => by omega⟩
      · rintro ⟨h, h1, h2⟩
        cases i with
        | zero => rfl
        | succ i => exact absurd hd (h2 0 (by omega))
    · rw [if_neg hd]
      cases i with
      | zero =>
        constructor
        · intro h; cases ha : atIx l x <;> simp [ha] at h
        · rintro ⟨h, h1, _⟩; exact absurd h1 hd
      | succ i =>
        have ih := atIx_spec l x i
        constructor
        · intro h
          cases ha : atIx l x with
          | none => simp [ha] at h
          | some k =>
            simp only [ha, Option.map_some, Option.some.injEq, Nat.add_right_cancel_iff] at h
            subst h
            obtain ⟨h0, h1, h2⟩ := ih.1 ha
            refine ⟨by simpa using h0, by simpa using h1, fun j hj => ?_⟩
            cases j with
            | zero => simpa using hd
            | succ j => simpa using h2 j (by omega)
        · rintro ⟨h, h1, h2⟩
          have : atIx l x = some i := ih.2 ⟨by simpa using h, by simpa using h1, fun j hj => by simpa using h2 (j + 1) (by omega)⟩
          simp [this]
theorem atIx_none : ∀ (l : List Data) (x : Int), atIx l x = none ↔ ∀ d ∈ l, d.tsn ≠ x
  | [], x => by simp [atIx]
  | d :: l, x => by
    simp only [atIx]
    by_cases hd : d.tsn = x
    · rw [if_pos hd]; simp [hd]
    · rw [if_neg hd]
      have ih := atIx_none l x
      cases ha : atIx l x with
      | none => simp [hd, ih.1 ha]; exact ih.1 ha
      | some k =>
        simp only [Option.map_some, reduceCtorEq, false_iff]
        intro h
        have := ih.2 fun y hy => h y (List.mem_cons_of_mem _ hy)
        rw [ha] at this; cases this
end Go.Cap

/- The chain of a message's parts, in plain terms. -/
namespace Go.Cap
open Go Go.Proofs
set_option linter.unusedSimpArgs false
set_option linter.unusedVariables false

def dataAt (l : List Data) (k : Nat) : Data := l.getD k ⟨0, 0, 0, false, false, false, []⟩
theorem dataAt_eq {l : List Data} {k : Nat} (h : k < l.length) : dataAt l k = l[k] := by simp [dataAt, List.getD_eq_getElem?_getD, h]
/-- The index of the part that comes behind part 'k'. -/
def nextIx (l : List Data) (k : Nat) : Option Nat := match atIx l (l3 (dataAt l k).tsn 1) with
  | some j => if (dataAt l j).first || !likeB (dataAt l j) (dataAt l k) then none else some j
  | none => none
def chainN : Nat → List Data → Nat → Option (List Nat)
  | 0, _, _ => none
  | n + 1, l, k => if (dataAt l k).last then some [k] else match nextIx l k with
    | some j => (chainN n l j).map (k :: ·)
    | none => none
def chain (l : List Data) (k : Nat) : Option (List Nat) := chainN l.length l k
/-- The parts that a walk has met: their numbers go up by one. -/
structure Walk (l : List Data) (pre : List Nat) (k : Nat) : Prop where
  last : pre.getLast? = some k
  lt : ∀ i ∈ pre, i < l.length
  tsn : ∀ j (h : j < pre.length), (dataAt l pre[j]).tsn = l3 (dataAt l (pre.headD 0)).tsn j
  nodup : pre.Nodup
theorem nodup_le {pre : List Nat} {n : Nat} (hn : pre.Nodup) (hl : ∀ i ∈ pre, i < n) : pre.length ≤ n := by
  have h2 : pre.length ≤ (List.range n).length := hn.length_le_of_subset (fun x hx => List.mem_range.2 (hl x hx))
  simpa using h2
theorem Walk.one {l : List Data} {k : Nat} (h : k < l.length) (ht : ∀ d ∈ l, 0 ≤ d.tsn ∧ d.tsn < 65536) : Walk l [k] k := by
  refine ⟨rfl, by simpa using h, ?_, by simp⟩
  intro j hj
  have : j = 0 := by simpa using hj
  subst this
  simp only [List.getElem_cons_zero, List.headD_cons]
  have := ht _ (List.getElem_mem h)
  rw [dataAt_eq h]
  exact (l3_zero this).symm
theorem atIx_some {l : List Data} {x : Int} {j : Nat} (h : atIx l x = some j) : ∃ hj : j < l.length, l[j].tsn = x := by
  obtain ⟨h1, h2, _⟩ := (atIx_spec l x j).1 h
  exact ⟨h1, h2⟩
theorem nextIx_some {l : List Data} {k j : Nat} (h : nextIx l k = some j) : atIx l (l3 (dataAt l k).tsn 1) = some j := by
  unfold nextIx at h
  split at h
  · rename_i j' ha
    split at h
    · cases h
    · cases h; exact ha
  · cases h
theorem l3_inj {a : Int} {i j : Nat} (hi : i < 60000) (hj : j < 60000) (h : l3 a i = l3 a j) : i = j := by unfold l3 at h; omega
theorem Walk.step {l : List Data} {pre : List Nat} {k j : Nat} (w : Walk l pre k) (hp : pre.length < 60000) (h : atIx l (l3 (dataAt l k).tsn 1) = some j) : Walk l (pre ++ [j]) j := by
  obtain ⟨hj, ht⟩ := atIx_some h
  have hne : pre ≠ [] := fun e => by have := w.last; rw [e] at this; cases this
  have hpos : 0 < pre.length := List.length_pos_iff.2 hne
  have hk : (dataAt l k).tsn = l3 (dataAt l (pre.headD 0)).tsn ((pre.length - 1 : Nat) : Int) := by
    have h2 := w.tsn (pre.length - 1) (by omega)
    have h3 : pre[pre.length - 1] = k := by
      have := w.last
      rw [List.getLast?_eq_getElem?, List.getElem?_eq_getElem (by omega)] at this
      exact Option.some.inj this
    rw [h3] at h2; exact h2
  have hjt : (dataAt l j).tsn = l3 (dataAt l (pre.headD 0)).tsn (pre.length : Int) := by
    rw [dataAt_eq hj, ht, hk, l3_l3]; congr 1; omega
  have hhead : (pre ++ [j]).headD 0 = pre.headD 0 := by cases pre with
    | nil => exact absurd rfl hne
    | cons a b => rfl
  refine ⟨List.getLast?_concat, fun i hi => ?_, fun i hi => ?_, ?_⟩
  · rcases List.mem_append.1 hi with hi | hi
    · exact w.lt i hi
    · simp only [List.mem_singleton] at hi; subst hi; exact hj
  · rw [hhead]
    rcases Nat.lt_or_ge i pre.length with hip | hip
    · rw [List.getElem_append_left hip]; exact w.tsn i hip
    · have : i = pre.length := by simp only [List.length_append, List.length_cons, List.length_nil] at hi; omega
      subst this
      simp only [List.getElem_concat_length]
      exact hjt
  · rw [List.nodup_append]
    refine ⟨w.nodup, by simp, fun a ha b hb => ?_⟩
    simp only [List.mem_singleton] at hb
    subst hb
    intro e
    subst e
    obtain ⟨i, hi, e⟩ := List.getElem_of_mem ha
    have h4 := w.tsn i hi
    rw [e, hjt] at h4
    have := l3_inj (by omega) (by omega) h4
    omega
end Go.Cap

/- Contracts: a valid assembly (the program's). -/
namespace Go.Cap
open Go Go.Proofs
set_option maxRecDepth 100000
set_option linter.unusedSimpArgs false
set_option linter.unusedVariables false
attribute [local irreducible] Call Run Spec Le

structure Asm where
  next : List Int
  parts : List Data
def intRow (n : Int) : List RV := [.n .i64 n]
def Asm.ro (a : Asm) : AV := .agg [.r (.ro none (a.next.map intRow)), .r (.ro none (a.parts.map Data.row))]
def partOk (n : Nat) (l : List Data) (d : Data) : Bool := dataB d && decide (d.stream < n) && (atIx l d.tsn).isNone
def partsLoop (n : Nat) (parts : List Data) : Nat → List Data → Bool
  | _, [] => true
  | i, d :: l => partOk n (parts.take i) d && partsLoop n parts (i + 1) l
def asmB (a : Asm) : Bool := decide (1 ≤ a.next.length ∧ a.next.length ≤ 4) && decide (a.parts.length ≤ 12) && a.next.all serialB && partsLoop a.next.length a.parts 0 a.parts
end Go.Cap

/- Contracts: the chain of a message's parts, and the message that is due (the program's). -/
namespace Go.Cap
open Go Go.Proofs
set_option maxRecDepth 100000
set_option linter.unusedSimpArgs false
set_option linter.unusedVariables false
attribute [local irreducible] Call Run Spec Le

theorem walk_head {pre : List Nat} {k : Nat} (h : pre.getLast? = some k) : pre = pre.dropLast ++ [k] := by
  have hne : pre ≠ [] := fun e => by rw [e] at h; cases h
  have h2 := List.dropLast_concat_getLast hne
  rw [List.getLast?_eq_some_getLast hne] at h
  have h3 := Option.some.inj h
  rw [h3] at h2; exact h2.symm
/-- What is known of the chain after a walk. -/
def Goes (l : List Data) (k : Nat) (pre : List Nat) (a : Nat) : Prop := chain l k = (chainN (l.length + 1 - pre.length) l a).map (pre.dropLast ++ ·)
theorem Goes.start {l : List Data} {k : Nat} : Goes l k [k] k := by
  unfold Goes chain
  simp
theorem Goes.next {l : List Data} {k a j : Nat} {pre : List Nat} (h : Goes l k pre a) (w : Walk l pre a) (hl : pre.length ≤ l.length) (hla : (dataAt l a).last = false) (hn : nextIx l a = some j) : Goes l k (pre ++ [j]) j := by
  unfold Goes at h ⊢
  have e : l.length + 1 - pre.length = (l.length - pre.length) + 1 := by omega
  have e2 : l.length + 1 - (pre ++ [j]).length = l.length - pre.length := by simp
  rw [e, chainN, if_neg (by simp [hla]), hn] at h
  rw [e2, List.dropLast_concat, h]
  cases hc : chainN (l.length - pre.length) l j with
  | none => simp [hc]
  | some t =>
    simp only [hc, Option.map_some]
    congr 1
    conv => rhs; rw [walk_head w.last]
    simp
theorem chain_ne {l : List Data} {k : Nat} {p : List Nat} : ∀ {n : Nat}, chainN n l k = some p → p ≠ []
  | 0, h => by cases h
  | n + 1, h => by
    rw [chainN] at h
    split at h
    · cases h; simp
    · split at h
      · cases hc : chainN n l _ with
        | none => rw [hc] at h; cases h
        | some t => rw [hc] at h; cases h; simp
      · cases h
/-- The number that a stream waits for. -/
def nextAt (a : Asm) (s : Int) : Int := a.next.getD s.toNat 0
def dueAt (a : Asm) (i : Nat) : Option (List Nat) := if (dataAt a.parts i).first && ((dataAt a.parts i).loose || (dataAt a.parts i).ssn == nextAt a (dataAt a.parts i).stream) then chain a.parts i else none
def dueFrom (a : Asm) : List Nat → Option (List Nat)
  | [] => none
  | i :: l => match dueAt a i with
    | some p => some p
    | none => dueFrom a l
def due (a : Asm) : Option (List Nat) := dueFrom a (List.range a.parts.length)
/-- What the search for a message relies on. -/
structure AsmOk (a : Asm) : Prop where
  len : a.parts.length ≤ 13
  tsn : ∀ d ∈ a.parts, 0 ≤ d.tsn ∧ d.tsn < 65536
  stream : ∀ d ∈ a.parts, 0 ≤ d.stream ∧ d.stream < a.next.length
  next : ∀ n ∈ a.next, serialB n = true
  nlen : a.next.length ≤ 4
end Go.Cap

/- Assemblies in plain terms: taking a message out, settling, adding. -/
namespace Go.Cap
open Go Go.Proofs
set_option linter.unusedSimpArgs false
set_option linter.unusedVariables false

def textOfIx (l : List Data) (p : List Nat) : List UInt8 := p.flatMap fun i => (dataAt l i).text
/-- The parts whose indices are not among some. -/
def restFrom (p : List Nat) : Nat → List Data → List Data
  | _, [] => []
  | i, d :: l => if i ∈ p then restFrom p (i + 1) l else d :: restFrom p (i + 1) l
def msgOf (a : Asm) (p : List Nat) : Msg := ⟨(dataAt a.parts (p.headD 0)).stream, (dataAt a.parts (p.headD 0)).ssn, (dataAt a.parts (p.headD 0)).loose, textOfIx a.parts p⟩
def takeOut (a : Asm) (p : List Nat) : Asm := ⟨if (msgOf a p).loose then a.next else a.next.set (msgOf a p).stream.toNat (l3 (nextAt a (msgOf a p).stream) 1), restFrom p 0 a.parts⟩
/-- All messages that are due are taken out. -/
def settle : Nat → Asm → List Msg → Asm × List Msg
  | 0, a, ms => (a, ms)
  | n + 1, a, ms => match due a with
    | some p => settle n (takeOut a p) (ms ++ [msgOf a p])
    | none => (a, ms)
def asmAdd (a : Asm) (d : Data) : Asm × List Msg × Int :=
  if !asmB a || !dataB d || decide ((a.next.length : Int) ≤ d.stream) then (⟨[], []⟩, [], 3)
  else if (atIx a.parts d.tsn).isSome then (a, [], 1)
  else if 12 ≤ a.parts.length then (a, [], 2)
  else let x := settle (a.parts.length + 2) ⟨a.next, a.parts ++ [d]⟩ []; (x.1, x.2, 0)
theorem restFrom_len (p : List Nat) : ∀ (l : List Data) (i : Nat), (restFrom p i l).length ≤ l.length
  | [], i => by simp [restFrom]
  | d :: l, i => by
    simp only [restFrom]
    split
    · have := restFrom_len p l (i + 1); simp only [List.length_cons]; omega
    · have := restFrom_len p l (i + 1); simp only [List.length_cons]; omega
theorem restFrom_lt (p : List Nat) : ∀ (l : List Data) (i k : Nat), k ∈ p → i ≤ k → k < i + l.length → (restFrom p i l).length < l.length
  | [], i, k, hk, h1, h2 => by simp at h2; omega
  | d :: l, i, k, hk, h1, h2 => by
    simp only [restFrom, List.length_cons] at h2 ⊢
    split
    · have := restFrom_len p l (i + 1); omega
    · rename_i hn
      have hne : i ≠ k := fun e => hn (e ▸ hk)
      have := restFrom_lt p l (i + 1) k hk (by omega) (by omega)
      simp only [List.length_cons]; omega
/-- A chain is a walk. -/
theorem chain_walk {l : List Data} (ht : ∀ d ∈ l, 0 ≤ d.tsn ∧ d.tsn < 65536) (hl : l.length ≤ 13) : ∀ (n k : Nat) (pre p : List Nat) , chainN n l k = some p → Walk l pre k → ∃ k', Walk l (pre.dropLast ++ p) k'
  | 0, k, pre, p, h, w => by cases h
  | n + 1, k, pre, p, h, w => by
    rw [chainN] at h
    split at h
    · cases h; rw [← walk_head w.last]; exact ⟨k, w⟩
    · split at h
      · rename_i j hj
        cases hc : chainN n l j with
        | none => rw [hc] at h; cases h
        | some t =>
          rw [hc] at h
          cases h
          have hpl := nodup_le w.nodup w.lt
          obtain ⟨k', w2⟩ := chain_walk ht hl n j (pre ++ [j]) t hc (w.step (by omega) (nextIx_some hj))
          rw [List.dropLast_concat] at w2
          refine ⟨k', ?_⟩
          have : pre.dropLast ++ k :: t = pre ++ t := by
            conv => rhs; rw [walk_head w.last]
            simp
          rw [this]; exact w2
      · cases h
theorem chainN_head {l : List Data} : ∀ {n k : Nat} {p : List Nat}, chainN n l k = some p → p.headD 0 = k
  | 0, k, p, h => by cases h
  | n + 1, k, p, h => by
    rw [chainN] at h
    split at h
    · cases h; rfl
    · split at h
      · cases hc : chainN n l _ with
        | none => rw [hc] at h; cases h
        | some t => rw [hc] at h; cases h; rfl
      · cases h
end Go.Cap

/- Contracts: adding a part (the program's): the loops. -/
namespace Go.Cap
open Go Go.Proofs
set_option maxRecDepth 100000
set_option linter.unusedSimpArgs false
set_option linter.unusedVariables false
attribute [local irreducible] Call Run Spec Le

/-- Which indices are taken. -/
def takenR (p : List Nat) : List RV := (List.range 13).map fun j => .b (decide (j ∈ p))
@[go_sem] theorem takenR_len (p : List Nat) : (takenR p).length = 13 := by simp [takenR]
theorem restFrom_drop {p : List Nat} {l : List Data} {i : Nat} (h : i < l.length) : restFrom p i (l.drop i) = if i ∈ p then restFrom p (i + 1) (l.drop (i + 1)) else l[i] :: restFrom p (i + 1) (l.drop (i + 1)) := by
  rw [List.drop_eq_getElem_cons h]; rfl
end Go.Cap

/- Contracts: adding a part (the program's). -/
namespace Go.Cap
open Go Go.Proofs
set_option maxRecDepth 100000
set_option linter.unusedSimpArgs false
set_option linter.unusedVariables false
attribute [local irreducible] Call Run Spec Le

theorem due_some {a : Asm} {p : List Nat} (h : due a = some p) : ∃ i, i < a.parts.length ∧ dueAt a i = some p := by
  have key : ∀ l : List Nat, dueFrom a l = some p → ∃ i ∈ l, dueAt a i = some p := by
    intro l
    induction l with
    | nil => intro h; cases h
    | cons i l ih =>
      intro h
      rw [dueFrom] at h
      cases hd : dueAt a i with
      | some q => rw [hd] at h; cases h; exact ⟨i, List.mem_cons_self .., hd⟩
      | none =>
        rw [hd] at h
        obtain ⟨j, hj, h2⟩ := ih h
        exact ⟨j, List.mem_cons_of_mem _ hj, h2⟩
  obtain ⟨i, hi, h2⟩ := key _ h
  exact ⟨i, List.mem_range.1 hi, h2⟩
/-- What a message that is due promises. -/
structure DueOk (a : Asm) (p : List Nat) : Prop where
  ne : p ≠ []
  lt : ∀ i ∈ p, i < a.parts.length
  nodup : p.Nodup
  first : (dataAt a.parts (p.headD 0)).first = true
  ssn : (dataAt a.parts (p.headD 0)).loose = true ∨ (dataAt a.parts (p.headD 0)).ssn = nextAt a (dataAt a.parts (p.headD 0)).stream
theorem due_ok {a : Asm} (h : AsmOk a) {p : List Nat} (hd : due a = some p) : DueOk a p := by
  obtain ⟨i, hi, h2⟩ := due_some hd
  unfold dueAt at h2
  split at h2
  · rename_i hc
    have hh := chainN_head h2
    obtain ⟨k', w⟩ := chain_walk h.tsn h.len _ i [i] p h2 (Walk.one hi h.tsn)
    simp only [List.dropLast_singleton, List.nil_append] at w
    simp only [Bool.and_eq_true, Bool.or_eq_true, beq_iff_eq] at hc
    exact ⟨chain_ne h2, w.lt, w.nodup, by rw [hh]; exact hc.1, by rw [hh]; exact hc.2⟩
  · cases h2
theorem takeOut_lt {a : Asm} {p : List Nat} (h : DueOk a p) : (takeOut a p).parts.length < a.parts.length := by
  obtain ⟨k, hk⟩ := List.exists_mem_of_ne_nil p h.ne
  exact restFrom_lt p a.parts 0 k hk (Nat.zero_le _) (by simpa using h.lt k hk)
end Go.Cap

/- Contracts: adding a part (the program's), whole. -/
namespace Go.Cap
open Go Go.Proofs
set_option maxRecDepth 100000
set_option linter.unusedSimpArgs false
set_option linter.unusedVariables false
attribute [local irreducible] Call Run Spec Le

theorem data_ok {d : Data} (h : dataB d = true) : (0 ≤ d.tsn ∧ d.tsn < 65536) ∧ (0 ≤ d.stream ∧ d.stream < 65536) ∧ (0 ≤ d.ssn ∧ d.ssn < 65536) ∧ 1 ≤ d.text.length ∧ d.text.length ≤ 20 := by
  simp only [dataB, serialB, Bool.and_eq_true, decide_eq_true_eq] at h
  exact ⟨h.1.1.1, h.1.1.2, h.1.2, h.2.1, h.2.2⟩
end Go.Cap

/- Groups of parts, in plain terms: which messages an assembly gives. -/
namespace Go.Cap
open Go Go.Proofs
set_option linter.unusedSimpArgs false
set_option linter.unusedVariables false

theorem nd_inj {α : Type} {l : List α} (h : l.Nodup) {i j : Nat} (hi : i < l.length) (hj : j < l.length) (e : l[i] = l[j]) : i = j := by
  have hp := List.pairwise_iff_getElem.1 h
  rcases Nat.lt_trichotomy i j with h1 | h1 | h1
  · exact absurd e (hp i j hi hj h1)
  · exact h1
  · exact absurd e.symm (hp j i hj hi h1)
def d0 : Data := ⟨0, 0, 0, false, false, false, []⟩
def hd (g : List Data) : Data := g.headD d0
/-- The parts of one message. -/
structure Grp (g : List Data) : Prop where
  ne : g ≠ []
  first : ∀ j (h : j < g.length), g[j].first = decide (j = 0)
  last : ∀ j (h : j < g.length), g[j].last = decide (j + 1 = g.length)
  like : ∀ j (h : j + 1 < g.length), likeB g[j + 1] g[j] = true
  tsn : ∀ j (h : j + 1 < g.length), g[j + 1].tsn = l3 g[j].tsn 1
def msgG (g : List Data) : Msg := ⟨(hd g).stream, (hd g).ssn, (hd g).loose, g.flatMap Data.text⟩
def ord (s : Int) (g : List Data) : Bool := !(hd g).loose && (hd g).stream == s
def hasT (g : List Data) (x : Int) : Bool := g.any fun e => e.tsn == x
structure Grps (gs : List (List Data)) : Prop where
  grp : ∀ g ∈ gs, Grp g
  inj : ∀ d ∈ gs.flatten, ∀ e ∈ gs.flatten, d.tsn = e.tsn → d = e
  nd : gs.flatten.Nodup
  rng : ∀ d ∈ gs.flatten, 0 ≤ d.tsn ∧ d.tsn < 65536
  rank : ∀ i (h : i < gs.length), (hd gs[i]).loose = false → (hd gs[i]).ssn = ((gs.take i).countP (ord (hd gs[i]).stream) : Nat)
theorem Grps.mem {gs : List (List Data)} {g : List Data} {d : Data} (h : g ∈ gs) (hd : d ∈ g) : d ∈ gs.flatten := List.mem_flatten.2 ⟨g, h, hd⟩
theorem hd_eq {g : List Data} (h : 0 < g.length) : hd g = g[0] := by cases g with
  | nil => cases h
  | cons a l => rfl
theorem hasT_mem {gs : List (List Data)} (G : Grps gs) {g : List Data} (hg : g ∈ gs) {d : Data} (hd : d ∈ gs.flatten) : hasT g d.tsn = true ↔ d ∈ g := by
  unfold hasT
  rw [List.any_eq_true]
  constructor
  · rintro ⟨e, he, h⟩
    rw [G.inj d hd e (Grps.mem hg he) (by simpa using (beq_iff_eq.1 h).symm)]
    exact he
  · intro h; exact ⟨d, h, by simp⟩
/-- Groups that share a part are the same. -/
theorem flat_nd : ∀ {gs : List (List Data)}, gs.flatten.Nodup → ∀ {i j : Nat} (hi : i < gs.length) (hj : j < gs.length) {d : Data}, d ∈ gs[i] → d ∈ gs[j] → i = j
  | [], _, i, j, hi, _, _, _, _ => by simp at hi
  | g :: gs, h, i, j, hi, hj, d, h1, h2 => by
    rw [List.flatten_cons, List.nodup_append] at h
    obtain ⟨_, h3, h4⟩ := h
    cases i with
    | zero => cases j with
      | zero => rfl
      | succ j =>
        simp only [List.getElem_cons_zero, List.getElem_cons_succ] at h1 h2
        exact absurd rfl (h4 d h1 d (Grps.mem (List.getElem_mem _) h2))
    | succ i => cases j with
      | zero =>
        simp only [List.getElem_cons_zero, List.getElem_cons_succ] at h1 h2
        exact absurd rfl (h4 d h2 d (Grps.mem (List.getElem_mem _) h1))
      | succ j =>
        simp only [List.getElem_cons_succ] at h1 h2
        have := flat_nd h3 (i := i) (j := j) (by simpa using hi) (by simpa using hj) h1 h2
        omega
theorem Grps.same {gs : List (List Data)} (G : Grps gs) {g g' : List Data} (h : g ∈ gs) (h' : g' ∈ gs) {d : Data} (hd : d ∈ g) (hd' : d ∈ g') : g = g' := by
  obtain ⟨i, hi, rfl⟩ := List.getElem_of_mem h
  obtain ⟨j, hj, rfl⟩ := List.getElem_of_mem h'
  have := flat_nd G.nd hi hj hd hd'
  subst this; rfl
def ixOf (l : List Data) (d : Data) : Nat := (atIx l d.tsn).getD 0
/-- Where parts lie. -/
structure Sub (gs : List (List Data)) (l : List Data) : Prop where
  mem : ∀ d ∈ l, d ∈ gs.flatten
  nd : l.Nodup
theorem Sub.ix {gs : List (List Data)} (G : Grps gs) {l : List Data} (S : Sub gs l) {d : Data} (h : d ∈ l) : ∃ i, atIx l d.tsn = some i ∧ ixOf l d = i ∧ ∃ hi : i < l.length, l[i] = d := by
  cases ha : atIx l d.tsn with
  | none => exact absurd rfl ((atIx_none _ _).1 ha d h)
  | some i =>
    obtain ⟨hi, ht⟩ := atIx_some ha
    exact ⟨i, rfl, by simp [ixOf, ha], hi, G.inj _ (S.mem _ (List.getElem_mem hi)) _ (S.mem _ h) ht⟩
theorem Sub.ix_get {gs : List (List Data)} (G : Grps gs) {l : List Data} (S : Sub gs l) {i : Nat} (hi : i < l.length) : ixOf l l[i] = i := by
  obtain ⟨j, _, h2, hj, h3⟩ := S.ix G (List.getElem_mem hi)
  rw [h2]
  exact nd_inj S.nd hj hi h3
theorem Sub.at {gs : List (List Data)} (G : Grps gs) {l : List Data} (S : Sub gs l) {d : Data} (h : d ∈ l) : dataAt l (ixOf l d) = d ∧ ixOf l d < l.length := by
  obtain ⟨i, _, h2, hi, h3⟩ := S.ix G h
  rw [h2, dataAt_eq hi]; exact ⟨h3, hi⟩
theorem drop_cons {g : List Data} {j : Nat} (h : j < g.length) : g.drop j = g[j] :: g.drop (j + 1) := List.drop_eq_getElem_cons h
theorem next_of {gs : List (List Data)} (G : Grps gs) {l : List Data} (S : Sub gs l) {g : List Data} (hg : g ∈ gs) {j : Nat} (hj : j + 1 < g.length) (h0 : g[j] ∈ l) (h1 : g[j + 1] ∈ l) : nextIx l (ixOf l g[j]) = some (ixOf l g[j + 1]) := by
  have hp := G.grp g hg
  obtain ⟨e0, _⟩ := S.at G h0
  obtain ⟨i, a1, a2, hi, a3⟩ := S.ix G h1
  unfold nextIx
  rw [e0, ← hp.tsn j hj, a1]
  simp only
  rw [a2, dataAt_eq hi, a3, hp.first (j + 1) hj, hp.like j hj]
  simp
theorem chain_of {gs : List (List Data)} (G : Grps gs) {l : List Data} (S : Sub gs l) {g : List Data} (hg : g ∈ gs) (hl : ∀ d ∈ g, d ∈ l) : ∀ (n j : Nat) (h : j < g.length), g.length - j ≤ n → chainN n l (ixOf l g[j]) = some ((g.drop j).map (ixOf l))
  | 0, j, h, hn => by omega
  | n + 1, j, h, hn => by
    have hp := G.grp g hg
    obtain ⟨e0, _⟩ := S.at G (hl _ (List.getElem_mem h))
    rw [chainN, e0, hp.last j h]
    by_cases hj : j + 1 = g.length
    · rw [if_pos (by simpa using hj), drop_cons h, List.drop_eq_nil_of_le (by omega)]; rfl
    · have hj1 : j + 1 < g.length := by omega
      rw [if_neg (by simpa using hj), next_of G S hg hj1 (hl _ (List.getElem_mem _)) (hl _ (List.getElem_mem _))]
      simp only
      rw [chain_of G S hg hl n (j + 1) hj1 (by omega), drop_cons h]; rfl
theorem chain_conv {gs : List (List Data)} (G : Grps gs) {l : List Data} (S : Sub gs l) {g : List Data} (hg : g ∈ gs) : ∀ (n j : Nat) (h : j < g.length) (_ : g[j] ∈ l) {p : List Nat}, chainN n l (ixOf l g[j]) = some p → p = (g.drop j).map (ixOf l) ∧ ∀ d ∈ g.drop j, d ∈ l
  | 0, j, h, h0, p, hc => by cases hc
  | n + 1, j, h, h0, p, hc => by
    have hp := G.grp g hg
    obtain ⟨e0, _⟩ := S.at G h0
    rw [chainN, e0, hp.last j h] at hc
    by_cases hj : j + 1 = g.length
    · rw [if_pos (by simpa using hj)] at hc
      cases hc
      rw [drop_cons h, List.drop_eq_nil_of_le (by omega)]
      exact ⟨rfl, by simpa using h0⟩
    · have hj1 : j + 1 < g.length := by omega
      rw [if_neg (by simpa using hj)] at hc
      cases hn : nextIx l (ixOf l g[j]) with
      | none => rw [hn] at hc; cases hc
      | some k =>
        rw [hn] at hc
        simp only at hc
        have hk := nextIx_some hn
        rw [e0, ← hp.tsn j hj1] at hk
        obtain ⟨hkl, hkt⟩ := atIx_some hk
        have hkd : l[k] = g[j + 1] := G.inj _ (S.mem _ (List.getElem_mem hkl)) _ (Grps.mem hg (List.getElem_mem hj1)) hkt
        have h1 : g[j + 1] ∈ l := hkd ▸ List.getElem_mem hkl
        have hik : ixOf l g[j + 1] = k := by rw [← hkd]; exact S.ix_get G hkl
        cases hcn : chainN n l k with
        | none => rw [hcn] at hc; cases hc
        | some t =>
          rw [hcn] at hc
          cases hc
          rw [← hik] at hcn
          obtain ⟨r1, r2⟩ := chain_conv G S hg n (j + 1) hj1 h1 hcn
          rw [drop_cons h, r1]
          refine ⟨rfl, fun d hd => ?_⟩
          rcases List.mem_cons.1 hd with rfl | hd
          · exact h0
          · exact r2 d hd
/-- Parts that are left when a message is taken out. -/
theorem rest_of {gs : List (List Data)} (G : Grps gs) {l : List Data} (S : Sub gs l) {g : List Data} (hg : g ∈ gs) (hl : ∀ d ∈ g, d ∈ l) : ∀ (k : Nat), k ≤ l.length → restFrom (g.map (ixOf l)) k (l.drop k) = (l.drop k).filter fun d => !hasT g d.tsn := by
  intro k hk
  induction h : l.length - k generalizing k with
  | zero => rw [List.drop_eq_nil_of_le (by omega)]; rfl
  | succ m ih =>
    have hkl : k < l.length := by omega
    rw [restFrom_drop hkl, ih (k + 1) (by omega) (by omega), drop_cons hkl, List.filter_cons]
    have hm : k ∈ g.map (ixOf l) ↔ hasT g l[k].tsn = true := by
      rw [hasT_mem G hg (S.mem _ (List.getElem_mem hkl)), List.mem_map]
      constructor
      · rintro ⟨e, he, h2⟩
        obtain ⟨h3, h4⟩ := S.at G (hl e he)
        rw [h2, dataAt_eq hkl] at h3
        rw [h3]; exact he
      · intro h2; exact ⟨_, h2, S.ix_get G hkl⟩
    by_cases hq : hasT g l[k].tsn = true
    · rw [if_pos (hm.2 hq), if_neg (by simp [hq])]
    · rw [if_neg (fun h2 => hq (hm.1 h2)), if_pos (by simpa using hq)]
theorem text_of {gs : List (List Data)} (G : Grps gs) {l : List Data} (S : Sub gs l) : ∀ (g : List Data), (∀ d ∈ g, d ∈ l) → textOfIx l (g.map (ixOf l)) = g.flatMap Data.text
  | [], _ => rfl
  | d :: g, h => by
    have ih := text_of G S g fun x hx => h x (List.mem_cons_of_mem _ hx)
    unfold textOfIx at ih ⊢
    rw [List.map_cons, List.flatMap_cons, ih, (S.at G (h d (List.mem_cons_self ..))).1, List.flatMap_cons]
theorem msg_of {gs : List (List Data)} (G : Grps gs) {a : Asm} (S : Sub gs a.parts) {g : List Data} (hg : g ∈ gs) (hl : ∀ d ∈ g, d ∈ a.parts) : msgOf a (g.map (ixOf a.parts)) = msgG g := by
  have ht := text_of G S g hl
  unfold msgOf msgG
  rw [ht]
  cases g with
  | nil => exact absurd rfl (G.grp _ hg).ne
  | cons d g =>
    have := (S.at G (hl d (List.mem_cons_self ..))).1
    simp only [List.map_cons, List.headD_cons, hd, this]
/-- What an assembly has of the groups: those that were told, in order. -/
structure AInv (gs : List (List Data)) (n : Nat) (arr : List Data) (a : Asm) (ms : List Msg) (T : List (List Data)) : Prop where
  sub : ∀ g ∈ T, g ∈ gs
  in_ : ∀ g ∈ T, ∀ d ∈ g, d ∈ arr
  nd : T.Nodup
  ms : ms = T.map msgG
  parts : a.parts = arr.filter fun d => !(T.any fun g => hasT g d.tsn)
  nlen : a.next.length = n
  next : ∀ s : Int, 0 ≤ s → s < n → nextAt a s = (T.countP (ord s) : Nat)
  rk : ∀ (i : Nat) (s : Int) (h : i < (T.filter (ord s)).length), (hd ((T.filter (ord s))[i])).ssn = (i : Int)
/-- What is known of all parts. -/
structure Base (gs : List (List Data)) (n : Nat) : Prop where
  G : Grps gs
  n4 : 1 ≤ n ∧ n ≤ 4
  many : gs.length ≤ 60000
  str : ∀ d ∈ gs.flatten, 0 ≤ d.stream ∧ d.stream < n
section
variable {gs : List (List Data)} {n : Nat} {arr : List Data} {a : Asm} {ms : List Msg} {T : List (List Data)}
theorem AInv.S (B : Base gs n) (A : Sub gs arr) (I : AInv gs n arr a ms T) : Sub gs a.parts := by
  rw [I.parts]
  exact ⟨fun d hd => A.mem d (List.mem_filter.1 hd).1, A.nd.filter _⟩
theorem AInv.mem (B : Base gs n) (A : Sub gs arr) (I : AInv gs n arr a ms T) {d : Data} : d ∈ a.parts ↔ d ∈ arr ∧ ∀ g ∈ T, d ∉ g := by
  rw [I.parts, List.mem_filter]
  refine and_congr_right fun hd => ?_
  rw [Bool.not_eq_true', List.any_eq_false]
  exact forall_congr' fun g => forall_congr' fun hg => not_congr (hasT_mem B.G (I.sub g hg) (A.mem d hd))
theorem hd_mem {g : List Data} (h : g ≠ []) : hd g ∈ g := by cases g with
  | nil => exact absurd rfl h
  | cons d g => exact List.mem_cons_self ..
theorem like_hd {g : List Data} (h : Grp g) : ∀ (j : Nat) (hj : j < g.length), g[j].stream = (hd g).stream ∧ g[j].ssn = (hd g).ssn ∧ g[j].loose = (hd g).loose
  | 0, hj => by rw [hd_eq hj]; exact ⟨rfl, rfl, rfl⟩
  | j + 1, hj => by
    obtain ⟨h1, h2, h3⟩ := like_hd h j (by omega)
    have := h.like j hj
    simp only [likeB, Bool.and_eq_true, beq_iff_eq] at this
    exact ⟨this.1.1.trans h1, this.1.2.trans h2, this.2.trans h3⟩
theorem like_mem {g : List Data} (h : Grp g) {d : Data} (hd' : d ∈ g) : d.stream = (hd g).stream ∧ d.ssn = (hd g).ssn ∧ d.loose = (hd g).loose := by
  obtain ⟨j, hj, rfl⟩ := List.getElem_of_mem hd'
  exact like_hd h j hj
theorem first_hd {g : List Data} (h : Grp g) {d : Data} (hd' : d ∈ g) (hf : d.first = true) : d = hd g := by
  obtain ⟨j, hj, rfl⟩ := List.getElem_of_mem hd'
  rw [h.first j hj] at hf
  have : j = 0 := by simpa using hf
  subst this
  exact (hd_eq hj).symm
theorem len_le {g : List Data} {l : List Data} (hn : g.Nodup) (h : ∀ d ∈ g, d ∈ l) : g.length ≤ l.length := hn.length_le_of_subset h
theorem nodup_of_mem : ∀ {gs : List (List Data)}, gs.flatten.Nodup → ∀ {g : List Data}, g ∈ gs → g.Nodup
  | [], _, g, h => by cases h
  | x :: gs, hn, g, h => by
    rw [List.flatten_cons, List.nodup_append] at hn
    rcases List.mem_cons.1 h with rfl | h
    · exact hn.1
    · exact nodup_of_mem hn.2.1 h
/-- A group that is whole is due, if it has no order or if its number is the next one. -/
theorem due_of (B : Base gs n) (A : Sub gs arr) (I : AInv gs n arr a ms T) {g : List Data} (hg : g ∈ gs) (hl : ∀ d ∈ g, d ∈ a.parts) (ho : (hd g).loose = true ∨ (hd g).ssn = nextAt a (hd g).stream) : due a ≠ none := by
  have S := I.S B A
  have hp := B.G.grp g hg
  have hpos : 0 < g.length := List.length_pos_iff.2 hp.ne
  have h0 := hl _ (List.getElem_mem hpos)
  obtain ⟨e0, hi⟩ := S.at B.G h0
  have hgl : g.length ≤ a.parts.length := len_le (nodup_of_mem B.G.nd hg) hl
  have hc : chain a.parts (ixOf a.parts g[0]) = some ((g.drop 0).map (ixOf a.parts)) := chain_of B.G S hg hl _ 0 hpos (by omega)
  have hda : dueAt a (ixOf a.parts g[0]) = some ((g.drop 0).map (ixOf a.parts)) := by
    unfold dueAt
    rw [e0, if_pos, hc]
    rw [hd_eq hpos] at ho
    simp only [Bool.and_eq_true, Bool.or_eq_true, beq_iff_eq]
    exact ⟨by rw [hp.first 0 hpos]; rfl, ho⟩
  intro hn
  have key : ∀ l : List Nat, dueFrom a l = none → ∀ i ∈ l, dueAt a i = none := by
    intro l
    induction l with
    | nil => intro _ i hi; cases hi
    | cons x l ih =>
      intro h i hi
      rw [dueFrom] at h
      cases hx : dueAt a x with
      | some q => rw [hx] at h; cases h
      | none =>
        rw [hx] at h
        rcases List.mem_cons.1 hi with rfl | hi
        · exact hx
        · exact ih h i hi
  have := key _ hn _ (List.mem_range.2 hi)
  rw [hda] at this; cases this
/-- What is due is a whole group. -/
theorem due_grp (B : Base gs n) (A : Sub gs arr) (I : AInv gs n arr a ms T) {p : List Nat} (h : due a = some p) : ∃ g ∈ gs, (∀ d ∈ g, d ∈ a.parts) ∧ p = g.map (ixOf a.parts) ∧ ((hd g).loose = true ∨ (hd g).ssn = nextAt a (hd g).stream) := by
  have S := I.S B A
  obtain ⟨i, hi, h2⟩ := due_some h
  unfold dueAt at h2
  split at h2
  · rename_i hc
    rw [dataAt_eq hi] at hc
    have hm := S.mem _ (List.getElem_mem hi)
    obtain ⟨g, hg, hdg⟩ := List.mem_flatten.1 hm
    simp only [Bool.and_eq_true, Bool.or_eq_true, beq_iff_eq] at hc
    have hh := first_hd (B.G.grp g hg) hdg hc.1
    have hpos : 0 < g.length := List.length_pos_iff.2 (B.G.grp g hg).ne
    have e : g[0] = a.parts[i] := by rw [hh, hd_eq hpos]
    have hix : ixOf a.parts g[0] = i := by rw [e]; exact S.ix_get B.G hi
    have hmem : g[0] ∈ a.parts := by rw [e]; exact List.getElem_mem hi
    unfold chain at h2
    rw [← hix] at h2
    obtain ⟨r1, r2⟩ := chain_conv B.G S hg _ 0 hpos hmem h2
    refine ⟨g, hg, r2, r1, ?_⟩
    rw [← hh]; exact hc.2
  · cases h2
theorem AInv.fresh (B : Base gs n) (A : Sub gs arr) (I : AInv gs n arr a ms T) {g : List Data} (hg : g ∈ gs) (hl : ∀ d ∈ g, d ∈ a.parts) : g ∉ T := fun h => by
  have := hd_mem (B.G.grp g hg).ne
  exact ((I.mem B A).1 (hl _ this)).2 g h this
theorem AInv.count (B : Base gs n) (I : AInv gs n arr a ms T) : T.length ≤ gs.length := I.nd.length_le_of_subset I.sub
/-- Taking a group out. -/
theorem AInv.take (B : Base gs n) (A : Sub gs arr) (I : AInv gs n arr a ms T) {g : List Data} (hg : g ∈ gs) (hl : ∀ d ∈ g, d ∈ a.parts) (ho : (hd g).loose = true ∨ (hd g).ssn = nextAt a (hd g).stream) :
    AInv gs n arr (takeOut a (g.map (ixOf a.parts))) (ms ++ [msgOf a (g.map (ixOf a.parts))]) (T ++ [g]) := by
  have S := I.S B A
  have hfr := I.fresh B A hg hl
  have hmg := msg_of B.G S hg hl
  have hstr := B.str _ (Grps.mem hg (hd_mem (B.G.grp g hg).ne))
  have hnd : (T ++ [g]).Nodup := by
    rw [List.nodup_append]
    exact ⟨I.nd, by simp, fun x hx y hy => by simp only [List.mem_singleton] at hy; subst hy; exact fun e => hfr (e ▸ hx)⟩
  refine ⟨fun x hx => ?_, fun x hx d hdx => ?_, hnd, ?_, ?_, ?_, fun s hs hsn => ?_, fun i s h => ?_⟩
  · rcases List.mem_append.1 hx with hx | hx
    · exact I.sub x hx
    · simp only [List.mem_singleton] at hx; subst hx; exact hg
  · rcases List.mem_append.1 hx with hx | hx
    · exact I.in_ x hx d hdx
    · simp only [List.mem_singleton] at hx; subst hx; exact ((I.mem B A).1 (hl d hdx)).1
  · rw [hmg, I.ms, List.map_append]; rfl
  · show restFrom _ 0 a.parts = _
    have := rest_of B.G S hg hl 0 (Nat.zero_le _)
    rw [List.drop_zero] at this
    rw [this, I.parts, List.filter_filter]
    congr 1
    funext d
    rw [List.any_append]
    simp only [List.any_cons, List.any_nil, Bool.or_false, Bool.not_or]
    exact Bool.and_comm _ _
  · unfold takeOut; simp only; split <;> simp [I.nlen]
  · have hcnt : (T ++ [g]).countP (ord s) = T.countP (ord s) + if ord s g = true then 1 else 0 := by
      rw [List.countP_append, List.countP_cons, List.countP_nil]; simp
    have hI := I.next s hs hsn
    have hcl : T.countP (ord s) ≤ 60000 := Nat.le_trans (Nat.le_trans List.countP_le_length (I.count B)) B.many
    unfold takeOut
    rw [hmg]
    unfold nextAt at hI ⊢
    rw [hcnt]
    by_cases hlo : (hd g).loose = true
    · have : (msgG g).loose = true := hlo
      rw [if_pos this, hI]
      simp [ord, hlo]
    · have hlo' : ¬ ((msgG g).loose = true) := hlo
      rw [if_neg hlo']
      have hms : (msgG g).stream = (hd g).stream := rfl
      rw [hms]
      have hnl := I.nlen
      by_cases hst : (hd g).stream = s
      · have : ord s g = true := by simp [ord, hlo, hst]
        rw [if_pos this, hst]
        simp only [List.getD_eq_getElem?_getD]
        rw [List.getElem?_set_self (by omega)]
        simp only [List.getD_eq_getElem?_getD] at hI
        rw [Option.getD_some, hI]
        unfold l3; omega
      · have : ¬ (ord s g = true) := by simp [ord, hst]
        rw [if_neg this]
        simp only [List.getD_eq_getElem?_getD]
        rw [List.getElem?_set_ne (by omega)]
        simp only [List.getD_eq_getElem?_getD] at hI
        exact hI
  · have hfl : (T ++ [g]).filter (ord s) = T.filter (ord s) ++ if ord s g = true then [g] else [] := by
      rw [List.filter_append, List.filter_cons, List.filter_nil]
    rcases Nat.lt_or_ge i (T.filter (ord s)).length with hi | hi
    · have e : ((T ++ [g]).filter (ord s))[i] = (T.filter (ord s))[i] := by
        simp only [hfl]; exact List.getElem_append_left hi
      rw [e]; exact I.rk i s hi
    · by_cases ht : ord s g = true
      · have hlen : ((T ++ [g]).filter (ord s)).length = (T.filter (ord s)).length + 1 := by rw [hfl, if_pos ht]; simp
        have hie : i = (T.filter (ord s)).length := by omega
        have e : ((T ++ [g]).filter (ord s))[i] = g := by
          simp only [hfl, if_pos ht]
          rw [List.getElem_append_right (by omega)]; simp
        rw [e, hie]
        simp only [ord, Bool.and_eq_true, Bool.not_eq_true', beq_iff_eq] at ht
        rcases ho with ho | ho
        · rw [ho] at ht; cases ht.1
        · rw [ho, I.next _ hstr.1 hstr.2, ht.2, List.countP_eq_length_filter]
      · rw [hfl, if_neg ht, List.append_nil] at h; omega
theorem filter_len_le {p : Data → Bool} {l : List Data} : (l.filter p).length ≤ l.length := List.length_filter_le ..
theorem AInv.ok (B : Base gs n) (A : Sub gs arr) (I : AInv gs n arr a ms T) (hl : arr.length ≤ 13) : AsmOk a := by
  have S := I.S B A
  refine ⟨by rw [I.parts]; exact Nat.le_trans filter_len_le hl, fun d hd => B.G.rng d (S.mem d hd), fun d hd => by rw [I.nlen]; exact B.str d (S.mem d hd), fun x hx => ?_, by rw [I.nlen]; exact B.n4.2⟩
  obtain ⟨i, hi, rfl⟩ := List.getElem_of_mem hx
  have h1 := I.next i (by omega) (by rw [← I.nlen]; omega)
  have hcl : T.countP (ord i) ≤ 60000 := Nat.le_trans (Nat.le_trans List.countP_le_length (I.count B)) B.many
  unfold nextAt at h1
  simp only [Int.toNat_natCast, List.getD_eq_getElem?_getD, List.getElem?_eq_getElem hi, Option.getD_some] at h1
  rw [h1]
  simp only [serialB, decide_eq_true_eq]; omega
/-- Settling. -/
theorem AInv.settle (B : Base gs n) (A : Sub gs arr) (hl : arr.length ≤ 13) : ∀ (k : Nat) (a : Asm) (ms : List Msg) (T : List (List Data)), AInv gs n arr a ms T → a.parts.length < k → ∃ T', AInv gs n arr (Cap.settle k a ms).1 (Cap.settle k a ms).2 (T ++ T') ∧ due (Cap.settle k a ms).1 = none
  | 0, a, ms, T, I, h => by omega
  | k + 1, a, ms, T, I, h => by
    cases hd : due a with
    | none =>
      refine ⟨[], ?_, ?_⟩ <;> rw [Cap.settle, hd]
      · rw [List.append_nil]; exact I
      · exact hd
    | some p =>
      obtain ⟨g, hg, hgl, rfl, ho⟩ := due_grp B A I hd
      have hlt := takeOut_lt (due_ok (I.ok B A hl) hd)
      obtain ⟨T', I', hd'⟩ := AInv.settle B A hl k _ _ _ (I.take B A hg hgl ho) (by omega)
      refine ⟨g :: T', ?_, ?_⟩ <;> rw [Cap.settle, hd]
      · rw [List.append_assoc] at I'; exact I'
      · exact hd'
end
end Go.Cap

/- What an assembly does with parts that it has not seen: it takes them, and tells the groups that are whole. -/
namespace Go.Cap
open Go Go.Proofs
set_option linter.unusedSimpArgs false
set_option linter.unusedVariables false

def asmStep (x : Asm × List Msg) (d : Data) : Asm × List Msg := if (asmAdd x.1 d).2.2 = 0 then ((asmAdd x.1 d).1, x.2 ++ (asmAdd x.1 d).2.1) else x
def asmNew (n : Nat) : Asm := ⟨List.replicate n 0, []⟩
def asmRun (n : Int) (l : List Data) : List Msg := if 1 ≤ n ∧ n ≤ 4 then (l.foldl asmStep (asmNew n.toNat, [])).2 else []
theorem settle_app : ∀ (k : Nat) (a : Asm) (ms ms0 : List Msg), settle k a (ms0 ++ ms) = ((settle k a ms).1, ms0 ++ (settle k a ms).2)
  | 0, _, _, _ => rfl
  | k + 1, a, ms, ms0 => by
    rw [settle, settle]
    cases due a with
    | none => rfl
    | some p => simp only; rw [List.append_assoc]; exact settle_app k _ _ _
theorem partsLoop_of {n : Nat} {p : List Data} : ∀ (l : List Data) (i : Nat), (∀ j (hj : j < l.length), partOk n (p.take (i + j)) l[j] = true) → partsLoop n p i l = true
  | [], _, _ => rfl
  | d :: l, i, h => by
    simp only [partsLoop, Bool.and_eq_true]
    refine ⟨h 0 (by simp), partsLoop_of l (i + 1) fun j hj => ?_⟩
    have := h (j + 1) (by simpa using hj)
    simpa [Nat.add_assoc, Nat.add_comm 1 j] using this
section
variable {gs : List (List Data)} {n : Nat} {arr : List Data} {a : Asm} {ms : List Msg} {T : List (List Data)} {d : Data}
theorem AInv.valid (B : Base gs n) (A : Sub gs arr) (I : AInv gs n arr a ms T) (hl : arr.length ≤ 12) (hd : ∀ d ∈ arr, dataB d = true) : asmB a = true := by
  have S := I.S B A
  have ok := I.ok B A (by omega)
  have hpl : a.parts.length ≤ 12 := by rw [I.parts]; exact Nat.le_trans filter_len_le hl
  have hall : a.next.all serialB = true := List.all_eq_true.2 ok.next
  have hps : partsLoop a.next.length a.parts 0 a.parts = true := by
    refine partsLoop_of _ 0 fun j hj => ?_
    have hm := List.getElem_mem hj
    rw [Nat.zero_add]
    unfold partOk
    have h1 : dataB a.parts[j] = true := hd _ ((I.mem B A).1 hm).1
    have h2 := (ok.stream _ hm).2
    have h3 : atIx (a.parts.take j) a.parts[j].tsn = none := by
      rw [atIx_none]
      intro d hd' e
      have hdm := List.mem_of_mem_take hd'
      have := B.G.inj _ (S.mem _ hdm) _ (S.mem _ hm) e
      obtain ⟨k, hk, e2⟩ := List.getElem_of_mem hd'
      rw [List.length_take] at hk
      rw [List.getElem_take] at e2
      have := nd_inj S.nd (i := k) (j := j) (by omega) hj (by rw [e2, this])
      omega
    rw [h1, h3, decide_eq_true h2]; rfl
  have hn : 1 ≤ a.next.length ∧ a.next.length ≤ 4 := by rw [I.nlen]; exact B.n4
  unfold asmB
  rw [hall, hps, decide_eq_true hpl, decide_eq_true hn]; rfl
theorem AInv.push (B : Base gs n) (A : Sub gs (arr ++ [d])) (I : AInv gs n arr a ms T) : AInv gs n (arr ++ [d]) ⟨a.next, a.parts ++ [d]⟩ ms T := by
  have hnd := List.nodup_append.1 A.nd
  have hfresh : ∀ g ∈ T, d ∉ g := fun g hg h => absurd rfl (hnd.2.2 d (I.in_ g hg d h) d (by simp))
  refine ⟨I.sub, fun g hg x hx => List.mem_append_left _ (I.in_ g hg x hx), I.nd, I.ms, ?_, I.nlen, I.next, I.rk⟩
  show a.parts ++ [d] = _
  rw [List.filter_append, ← I.parts]
  congr 1
  have : (T.any fun g => hasT g d.tsn) = false := by
    rw [List.any_eq_false]
    intro g hg
    rw [hasT_mem B.G (I.sub g hg) (A.mem d (by simp))]
    exact hfresh g hg
  simp [this]
theorem Sub.left {more : List Data} (A : Sub gs (arr ++ more)) : Sub gs arr := ⟨fun x hx => A.mem x (List.mem_append_left _ hx), (List.nodup_append.1 A.nd).1⟩
theorem AInv.add (B : Base gs n) (A : Sub gs (arr ++ [d])) (I : AInv gs n arr a ms T) (hl : arr.length < 12) (hd : ∀ x ∈ arr ++ [d], dataB x = true) :
    ∃ T', AInv gs n (arr ++ [d]) (asmStep (a, ms) d).1 (asmStep (a, ms) d).2 (T ++ T') ∧ due (asmStep (a, ms) d).1 = none := by
  have A0 := A.left
  have hv := I.valid B A0 (by omega) fun x hx => hd x (List.mem_append_left _ hx)
  have hdd := hd d (by simp)
  have hst := B.str d (A.mem d (by simp))
  have hat : atIx a.parts d.tsn = none := by
    rw [atIx_none]
    intro x hx e
    have hx' := ((I.mem B A0).1 hx).1
    have := B.G.inj _ (A0.mem x hx') _ (A.mem d (by simp)) e
    subst this
    exact absurd rfl ((List.nodup_append.1 A.nd).2.2 x hx' x (by simp))
  have hpl : a.parts.length < 12 := by rw [I.parts]; exact Nat.lt_of_le_of_lt filter_len_le hl
  have hadd : asmAdd a d = ((Cap.settle (a.parts.length + 2) ⟨a.next, a.parts ++ [d]⟩ []).1, (Cap.settle (a.parts.length + 2) ⟨a.next, a.parts ++ [d]⟩ []).2, 0) := by
    unfold asmAdd
    rw [if_neg (by simp [hv, hdd, I.nlen]; omega), hat, if_neg (by simp), if_neg (by omega)]
  obtain ⟨T', I', h'⟩ := AInv.settle B A (by simp; omega) (a.parts.length + 2) _ _ _ (I.push B A) (by simp)
  have e := settle_app (a.parts.length + 2) ⟨a.next, a.parts ++ [d]⟩ [] ms
  rw [List.append_nil] at e
  rw [e] at I' h'
  have hs : asmStep (a, ms) d = ((Cap.settle (a.parts.length + 2) ⟨a.next, a.parts ++ [d]⟩ []).1, ms ++ (Cap.settle (a.parts.length + 2) ⟨a.next, a.parts ++ [d]⟩ []).2) := by
    unfold asmStep; simp only [hadd, if_true]
  rw [hs]
  exact ⟨T', I', h'⟩
theorem AInv.run (B : Base gs n) : ∀ (more arr : List Data) (a : Asm) (ms : List Msg) (T : List (List Data)), Sub gs (arr ++ more) → AInv gs n arr a ms T → due a = none → (arr ++ more).length ≤ 12 → (∀ x ∈ arr ++ more, dataB x = true) →
    ∃ T', AInv gs n (arr ++ more) (more.foldl asmStep (a, ms)).1 (more.foldl asmStep (a, ms)).2 (T ++ T') ∧ due (more.foldl asmStep (a, ms)).1 = none
  | [], arr, a, ms, T, A, I, h, hl, hd => ⟨[], by simpa using I, h⟩
  | d :: more, arr, a, ms, T, A, I, h, hl, hd => by
    have e : arr ++ d :: more = (arr ++ [d]) ++ more := by simp
    rw [e] at A hl hd ⊢
    obtain ⟨T1, I1, h1⟩ := I.add B A.left (by simp at hl; omega) fun x hx => hd x (List.mem_append_left _ hx)
    obtain ⟨T2, I2, h2⟩ := AInv.run B more (arr ++ [d]) _ _ _ A I1 h1 hl hd
    rw [List.append_assoc T T1 T2] at I2
    exact ⟨T1 ++ T2, I2, h2⟩
theorem AInv.start (gs : List (List Data)) (n : Nat) : AInv gs n [] (asmNew n) [] [] := by
  refine ⟨fun g h => (List.not_mem_nil h).elim, fun g h => (List.not_mem_nil h).elim, List.nodup_nil, rfl, rfl, by simp [asmNew], fun s h1 h2 => ?_, fun i s h => by simp at h⟩
  simp only [nextAt, asmNew, List.getD_eq_getElem?_getD, List.getElem?_replicate]
  split <;> rfl
theorem rank_lt {p : List Data → Bool} {gs : List (List Data)} {j i : Nat} (hj : j < i) (hi : i ≤ gs.length) (h : p (gs[j]'(by omega)) = true) : (gs.take j).countP p + 1 ≤ (gs.take i).countP p := by
  have h1 : (gs.take (j + 1)).countP p = (gs.take j).countP p + 1 := by
    rw [take_get (by omega), List.countP_append, List.countP_cons, List.countP_nil, if_pos h]
  have h2 : (gs.take (j + 1)).Sublist (gs.take i) := by
    have : gs.take (j + 1) = (gs.take i).take (j + 1) := by rw [List.take_take]; congr 1; omega
    rw [this]; exact List.take_sublist ..
  have := h2.countP_le (p := p)
  omega
theorem Grps.nodup (G : Grps gs) : gs.Nodup := by
  refine List.pairwise_iff_getElem.2 fun i j hi hj hij e => ?_
  have hm := hd_mem (G.grp _ (List.getElem_mem hi)).ne
  have := flat_nd G.nd hi hj hm (e ▸ hm)
  omega
theorem Grps.rank_inj (G : Grps gs) {s : Int} {i j : Nat} (hi : i < gs.length) (hj : j < gs.length) (h1 : ord s gs[i] = true) (h2 : ord s gs[j] = true) (h : (gs.take i).countP (ord s) = (gs.take j).countP (ord s)) : i = j := by
  rcases Nat.lt_trichotomy i j with k | k | k
  · have := rank_lt k (by omega) h1; omega
  · exact k
  · have := rank_lt k (by omega) h2; omega
/-- A group that is whole has been told, if all groups ahead of it are whole too. -/
theorem AInv.whole (B : Base gs n) (A : Sub gs arr) (I : AInv gs n arr a ms T) (hdue : due a = none) : ∀ (i : Nat) (hi : i < gs.length), (∀ j (hj : j ≤ i), ∀ d ∈ gs[j]'(by omega), d ∈ arr) → gs[i] ∈ T := by
  intro i
  induction i using Nat.strongRecOn with
  | _ i ih =>
    intro hi hin
    by_cases hT : gs[i] ∈ T
    · exact hT
    exfalso
    have hg := List.getElem_mem hi
    have hp := B.G.grp _ hg
    have hl : ∀ d ∈ gs[i], d ∈ a.parts := fun d hd => (I.mem B A).2 ⟨hin i (Nat.le_refl _) d hd, fun g hgT hdg => hT (B.G.same hg (I.sub g hgT) hd hdg ▸ hgT)⟩
    refine due_of B A I hg hl ?_ hdue
    by_cases hlo : (hd gs[i]).loose = true
    · exact .inl hlo
    · right
      have hlo' : (hd gs[i]).loose = false := by simpa using hlo
      have hstr := B.str _ (Grps.mem hg (hd_mem hp.ne))
      rw [B.G.rank i hi hlo', I.next _ hstr.1 hstr.2]
      generalize hs : (hd gs[i]).stream = s
      have ho : ord s gs[i] = true := by simp [ord, hlo', hs]
      congr 1
      apply Nat.le_antisymm
      · rw [List.countP_eq_length_filter, List.countP_eq_length_filter]
        refine List.Nodup.length_le_of_subset ?_ ?_
        · exact (B.G.nodup.sublist (List.take_sublist ..)).filter _
        · intro g hgf
          rw [List.mem_filter] at hgf ⊢
          refine ⟨?_, hgf.2⟩
          obtain ⟨j, hj, rfl⟩ := List.mem_take_iff_getElem.1 hgf.1
          exact ih j (by omega) (by omega) fun k hk => hin k (by omega)
      · rcases Nat.lt_or_ge ((gs.take i).countP (ord s)) (T.countP (ord s)) with hlt | hge
        · exfalso
          rw [List.countP_eq_length_filter (p := ord s) (l := T)] at hlt
          have hrk := I.rk _ s hlt
          have hmem := List.mem_filter.1 (List.getElem_mem hlt)
          generalize (T.filter (ord s))[(gs.take i).countP (ord s)] = gx at hrk hmem
          obtain ⟨j, hj, rfl⟩ := List.getElem_of_mem (I.sub _ hmem.1)
          have ho2 := hmem.2
          simp only [ord, Bool.and_eq_true, Bool.not_eq_true', beq_iff_eq] at ho2
          rw [B.G.rank j hj ho2.1, ho2.2] at hrk
          have hij := B.G.rank_inj hi hj ho hmem.2 (by omega)
          subst hij
          exact hT hmem.1
        · exact hge
end
end Go.Cap
