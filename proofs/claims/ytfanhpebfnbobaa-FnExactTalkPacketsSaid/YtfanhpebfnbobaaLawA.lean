import Derived.Test.YtfanhpebfnbobaaEngC
import Derived.Test.YtfanhpebfnbobaaPc
/- Contracts of the functions that TalkValid reaches. -/
namespace Go.Cap
open Go Go.Proofs
set_option maxRecDepth 100000
set_option linter.unusedSimpArgs false
set_option linter.unusedVariables false
attribute [local irreducible] Call Run Spec Le

def serialB (x : Int) : Bool := decide (0 ≤ x ∧ x < 65536)
theorem bo_inj {a b : Bool} (h : a = b) : AV.r (.b a) = AV.bo b := by rw [h]
def inB (n lo hi : Int) : Bool := decide (lo ≤ n ∧ n ≤ hi)
structure Say where
  byB : Bool
  stream : Int
  loose : Bool
  text : List UInt8
def Say.row (s : Say) : List RV := [.b s.byB, .n .i64 s.stream, .b s.loose, .s s.text]
def Say.av (s : Say) : AV := .agg [.bo s.byB, .i s.stream, .bo s.loose, .st s.text]
structure Init where
  tag : Int
  window : Int
  streams : Int
  tsn : Int
def Init.av (x : Init) : AV := .agg [.i x.tag, .i x.window, .i x.streams, .i x.tsn]
def initB (x : Init) : Bool := decide (1 ≤ x.tag ∧ x.tag ≤ 4294967295 ∧ 1 ≤ x.streams ∧ x.streams ≤ 4) && serialB x.window && serialB x.tsn
structure Talk where
  fr : Int
  to : Int
  a : Init
  b : Init
  size : Int
  says : List Say
def Talk.av (t : Talk) (x : AV) : AV := .agg [.i t.fr, .i t.to, .i t.a.tag, .i t.a.window, .i t.a.streams, .i t.a.tsn, .i t.b.tag, .i t.b.window, .i t.b.streams, .i t.b.tsn, .i t.size, x]
abbrev Talk.ro (t : Talk) : AV := t.av (.r (.ro none (t.says.map Say.row)))

theorem s_serialOk (x : Int) : Spec Try.prog 109 0 [] [.i x] (fun r _ _ _ => r = .bo (serialB x)) := by
  refine mk109 rfl fun c hP hm => ?_
  unfold pc109
  simp only [go_sem, ↓reduceIte]
  repeat' first | refine And.intro ?_ ?_ | intro _
  all_goals (simp [serialB]; try omega)
theorem c_serialOk {c : Cx} (hP : c.P = Try.prog) {x : Int} {s : St} {K : AV → St → Prop} (h : K (.bo (serialB x)) s) : Call c 109 [.i x] s K :=
  call_pure (hP ▸ s_serialOk x) rfl rfl h
theorem s_l6In (x lo hi : Int) : Spec Try.prog 116 0 [] [.i x, .i lo, .i hi] (fun r _ _ _ => r = .bo (inB x lo hi)) := by
  refine mk116 rfl fun c hP hm => ?_
  unfold pc116
  simp only [go_sem, ↓reduceIte]
  repeat' first | refine And.intro ?_ ?_ | intro _
  all_goals (simp [inB]; try omega)
theorem c_l6In {c : Cx} (hP : c.P = Try.prog) {x lo hi : Int} {s : St} {K : AV → St → Prop} (h : K (.bo (inB x lo hi)) s) : Call c 116 [.i x, .i lo, .i hi] s K :=
  call_pure (hP ▸ s_l6In x lo hi) rfl rfl h
theorem s_l3Ok (x : Int) : Spec Try.prog 163 0 [] [.i x] (fun r _ _ _ => r = .bo (serialB x)) := by
  refine mk163 rfl fun c hP hm => ?_
  unfold pc163
  simp only [go_sem, ↓reduceIte]
  refine c_l6In hP ?_
  simp only [go_sem, ↓reduceIte]
  rw [show serialB x = inB x 0 65535 by simp only [serialB, inB, decide_eq_decide]; omega]
theorem c_l3Ok {c : Cx} (hP : c.P = Try.prog) {x : Int} {s : St} {K : AV → St → Prop} (h : K (.bo (serialB x)) s) : Call c 163 [.i x] s K :=
  call_pure (hP ▸ s_l3Ok x) rfl rfl h
theorem s_initOk (x : Init) : Spec Try.prog 108 0 [] [x.av] (fun r _ _ _ => r = .bo (initB x)) := by
  obtain ⟨a, b, d, e⟩ := x
  refine mk108 rfl fun c hP hm => ?_
  unfold pc108 Init.av
  simp only [go_sem, ↓reduceIte]
  repeat' first | refine And.intro ?_ ?_ | intro _ | (refine c_serialOk hP ?_; simp only [go_sem, ↓reduceIte])
  all_goals (simp [initB, *]; try omega)
theorem c_initOk {c : Cx} (hP : c.P = Try.prog) {a b d e : Int} {s : St} {K : AV → St → Prop} (h : K (.bo (initB ⟨a, b, d, e⟩)) s) : Call c 108 [.agg [.i a, .i b, .i d, .i e]] s K :=
  call_pure (hP ▸ s_initOk ⟨a, b, d, e⟩) rfl rfl h
theorem s_l12Init (x : Init) : Spec Try.prog 136 0 [] [x.av] (fun r _ _ _ => r = .bo (initB x)) := by
  obtain ⟨a, b, d, e⟩ := x
  refine mk136 rfl fun c hP hm => ?_
  unfold pc136 Init.av
  simp only [go_sem, ↓reduceIte]
  repeat' first | refine And.intro ?_ ?_ | intro _ | (refine c_l6In hP ?_; simp only [go_sem, ↓reduceIte]) | (refine c_l3Ok hP ?_; simp only [go_sem, ↓reduceIte])
  all_goals (simp [initB, inB, serialB] at *; try omega)
end Go.Cap

/- Contracts: sizes and copies of a talk. -/
namespace Go.Cap
open Go Go.Proofs
set_option maxRecDepth 100000
set_option linter.unusedSimpArgs false
set_option linter.unusedVariables false
attribute [local irreducible] Call Run Spec Le

/-- What is left of a bound. -/
def szText (n left : Int) : Int := if left - n < 0 then -1 else left - n
def szTexts : List Int → Int → Int
  | [], left => left
  | n :: l, left => if szText n left < 0 then -1 else szTexts l (szText n left)
def szSays (l : List Say) (left : Int) : Int := if left - l.length < 0 then -1 else szTexts (l.map fun s => (s.text.length : Int)) (left - l.length)

theorem s_szSay (s : Say) (left : Int) (h : 0 ≤ left ∧ left ≤ 1048576) (ht : (s.text.length : Int) ≤ 9223372036854775807) : Spec Try.prog 135 0 [] [s.av, .i left] (fun r _ _ _ => r = .i (szText s.text.length left)) := by
  refine mk135 rfl fun c hP hm => ?_
  unfold pc135 Say.av
  simp only [go_sem, ↓reduceIte]
  rw [wrap64 (by omega) (by omega)]
  unfold szText
  refine ⟨fun h => ?_, fun h => ?_⟩
  · rw [if_pos h]
  · rw [if_neg (by omega)]
theorem szTexts_drop {l : List Int} {i : Nat} (h : i < l.length) (left : Int) : szTexts (l.drop i) left = if szText l[i] left < 0 then -1 else szTexts (l.drop (i + 1)) (szText l[i] left) := by
  rw [List.drop_eq_getElem_cons h]; rfl
theorem szText_le (n left : Int) (hn : 0 ≤ n) : szText n left ≤ left ∨ szText n left = -1 := by
  unfold szText; split
  · exact .inr rfl
  · exact .inl (by omega)

theorem s_szSayS (l : List Say) (left : Int) (h : 0 ≤ left ∧ left ≤ 1048576) (hl : (l.length : Int) ≤ 9223372036854775807) (ht : ∀ s ∈ l, (s.text.length : Int) ≤ 9223372036854775807) :
    Spec Try.prog 73 0 [] [.r (.ro none (l.map Say.row)), .i left] (fun r _ _ _ => r = .i (szSays l left)) := by
  refine mk73 rfl fun c hP hm => ?_
  unfold pc73
  simp only [go_sem, ↓reduceIte]
  intro _
  rw [wrap64 (by omega) (by omega)]
  unfold szSays
  refine ⟨fun h => ?_, fun h => ?_⟩
  · rw [if_pos h]
  · rw [if_neg (by omega)]
    refine lp_wpc (α := Nat × Int) (fun y => ⟨[(0, .r (.ro none (l.map Say.row))), (1, .i y.2), (5, .i y.1)], [], 0, []⟩)
      (fun y => y.1 ≤ l.length ∧ 0 ≤ y.2 ∧ y.2 ≤ 1048576 ∧ szTexts ((l.map fun s => (s.text.length : Int)).drop y.1) y.2 = szTexts (l.map fun s => (s.text.length : Int)) (left - l.length)) (fun y => l.length - y.1) (0, left - l.length)
      ⟨Nat.zero_le _, by omega, by omega, rfl⟩ (Le.refl _) ?_
    rintro ⟨i, x⟩ ⟨hi, hx0, hx1, hx⟩
    unfold pc73l0
    simp only [go_sem, ↓reduceIte]
    intro _
    refine ⟨fun hlt => ?_, fun hge => ?_⟩
    · have hil : i < l.length := by omega
      rw [szTexts_drop (by simpa using hil)] at hx
      simp only [List.getElem_map] at hx
      simp only [Int.toNat_natCast, getD_map hil, Say.row, go_sem, ↓reduceIte]
      refine ⟨⟨by omega, by omega⟩, ?_⟩
      refine call_pure (hP ▸ s_szSay l[i] x ⟨hx0, hx1⟩ (ht _ (List.getElem_mem hil))) rfl rfl ?_
      simp only [go_sem, ↓reduceIte]
      refine ⟨fun hneg => ?_, fun hpos => ?_⟩
      · rw [if_pos hneg] at hx; rw [← hx]
      · rw [if_neg (by omega)] at hx
        rw [wrap64 (by omega) (by omega)]
        have := szText_le l[i].text.length x (by omega)
        exact ⟨(i + 1, szText l[i].text.length x), ⟨hil, by omega, by omega, hx⟩, by simp only; omega, Le.refl _⟩
    · have : i = l.length := by omega
      subst this
      rw [List.drop_eq_nil_of_le (by simp)] at hx
      rw [← hx]; rfl

theorem s_szTalk (t : Talk) (left : Int) (h : 0 ≤ left ∧ left ≤ 1048576) (hl : (t.says.length : Int) ≤ 9223372036854775807) (ht : ∀ s ∈ t.says, (s.text.length : Int) ≤ 9223372036854775807) :
    Spec Try.prog 34 0 [] [t.ro, .i left] (fun r _ _ _ => r = .i (if szSays t.says left < 0 then -1 else szSays t.says left)) := by
  refine mk34 rfl fun c hP hm => ?_
  unfold pc34 Talk.ro Talk.av
  simp only [go_sem, ↓reduceIte]
  refine call_pure (hP ▸ s_szSayS t.says left h hl ht) rfl rfl ?_
  simp only [go_sem, ↓reduceIte]
  refine ⟨fun h => ?_, fun h => ?_⟩
  · rw [if_pos h]
  · rw [if_neg (by omega)]
theorem szTexts_spec : ∀ (l : List Int) (left : Int), (∀ n ∈ l, 0 ≤ n) → 0 ≤ szTexts l left → left - szTexts l left = l.sum
  | [], left, _, _ => by simp [szTexts]
  | n :: l, left, hn, h => by
    simp only [szTexts] at h ⊢
    split at h
    · omega
    · rename_i h1
      rw [if_neg h1]
      have := szTexts_spec l (szText n left) (fun n hm => hn n (List.mem_cons_of_mem _ hm)) h
      have h2 : szText n left = left - n := by
        unfold szText at h1 ⊢; split
        · rename_i h3; rw [if_pos h3] at h1; omega
        · rfl
      rw [h2] at this ⊢
      simp only [List.sum_cons]; omega
theorem sum_mem : ∀ (l : List Int), (∀ n ∈ l, 0 ≤ n) → ∀ n ∈ l, n ≤ l.sum
  | [], _, n, h => by cases h
  | x :: l, hl, n, h => by
    have h0 := hl x (by simp)
    have hp : ∀ (l : List Int), (∀ n ∈ l, 0 ≤ n) → 0 ≤ l.sum := by
      intro l
      induction l with
      | nil => intro _; simp
      | cons y l ih => intro h; have := h y (by simp); have := ih (fun n hn => h n (List.mem_cons_of_mem _ hn)); simp only [List.sum_cons]; omega
    have h1 := hp l (fun n hn => hl n (List.mem_cons_of_mem _ hn))
    rcases List.mem_cons.1 h with rfl | h
    · simp only [List.sum_cons]; omega
    · have := sum_mem l (fun n hn => hl n (List.mem_cons_of_mem _ hn)) n h
      simp only [List.sum_cons]; omega
/-- What a bound that holds says. -/
theorem szSays_ok {l : List Say} (h : 0 ≤ szSays l 1048576) : l.length ≤ 1048576 ∧ ∀ s ∈ l, s.text.length ≤ 1048576 := by
  unfold szSays at h
  split at h
  · omega
  · rename_i h1
    have hn : ∀ n ∈ l.map (fun s => (s.text.length : Int)), 0 ≤ n := fun n hm => by
      obtain ⟨s, _, rfl⟩ := List.mem_map.1 hm; omega
    have h2 := szTexts_spec _ _ hn h
    refine ⟨by omega, fun s hs => ?_⟩
    have := sum_mem _ hn s.text.length (List.mem_map.2 ⟨s, hs, rfl⟩)
    omega

theorem s_toInit (x : Init) : Spec Try.prog 82 0 [] [x.av] (fun r _ _ _ => r = x.av) := by
  refine mk82 rfl fun c hP hm => ?_
  unfold pc82 Init.av
  simp only [go_sem, ↓reduceIte]
theorem s_toSay (x : Say) : Spec Try.prog 144 0 [] [x.av] (fun r _ _ _ => r = x.av) := by
  refine mk144 rfl fun c hP hm => ?_
  unfold pc144 Say.av
  simp only [go_sem, ↓reduceIte]
theorem s_toSayS (l : List Say) (hl : l.length ≤ 1048576) : Spec Try.prog 83 0 [] [.r (.ro none (l.map Say.row))] (New1 (.sl 0 0 l.length) 4 (l.map Say.row)) := by
  refine mk83 rfl fun c hP hm => ?_
  unfold pc83
  simp only [go_sem, ↓reduceIte]
  simp only [Int.toNat_natCast]
  intro _
  refine ⟨⟨by omega, by omega⟩, ?_⟩
  refine lp_wpc (α := Nat) (fun i => ⟨[(0, .r (.ro none (l.map Say.row))), (3, .sl 0 0 l.length), (4, .i i)], [(0, .row 4 ((l.map Say.row).take i ++ List.replicate ((l.map Say.row).length - i) [.b false, .n .i64 0, .b false, .s []]))], 1, []⟩)
    (fun i => i ≤ l.length) (fun i => l.length - i) 0 (Nat.zero_le _) (le_eq (by simp)) ?_
  intro i hi
  unfold pc83l0
  simp only [go_sem, ↓reduceIte]
  intro _
  refine ⟨fun hlt => ?_, fun hge => ?_⟩
  · have hil : i < l.length := by omega
    simp only [Int.toNat_natCast, getD_map hil, Say.row, go_sem, ↓reduceIte]
    refine ⟨⟨by omega, by omega⟩, ?_⟩
    refine call_pure (hP ▸ s_toSay l[i]) rfl rfl ?_
    simp only [Say.av, go_sem, ↓reduceIte, Int.toNat_natCast]
    refine ⟨⟨by omega, by omega⟩, ?_, i + 1, hil, by omega, le_eq ?_⟩
    · simp; omega
    · have h1 := fill_set (M := l.map Say.row) (z := [.b false, .n .i64 0, .b false, .s []]) (i := i) (by simpa using hil)
      simp only [List.getElem_map, Say.row, List.length_map] at h1
      try simp only [List.length_map]
      rw [wrap64 (by omega) (by omega), ← h1]
      rfl
  · have : i = l.length := by omega
    subst this
    refine ⟨rfl, ?_, rfl, rfl⟩
    simp
    exact List.take_of_length_le (by simp)
theorem sayClosed (l : List Say) : closL2 (l.map Say.row) := closL2_map (fun s x hx => by
  simp only [Say.row, List.mem_cons, List.not_mem_nil, or_false] at hx
  rcases hx with rfl | rfl | rfl | rfl <;> rfl) l

/-- A talk's copy. -/
theorem s_toTalk (t : Talk) (hl : t.says.length ≤ 1048576) : Spec Try.prog 36 0 [] [t.ro] (New1 (t.av (.sl 0 0 t.says.length)) 4 (t.says.map Say.row)) := by
  refine Spec.new1 (Q := fun r hp _ _ => r = t.av (.sl 3 0 t.says.length) ∧ hget hp 3 = some (.row 4 (t.says.map Say.row))) ?_ (fun r hp nx gs h => ⟨3, by rw [h.1]; rfl, h.2⟩) (fun f g h => by simp only [Talk.av, go_sem, h])
  refine mk36 rfl fun c hP hm => ?_
  unfold pc36 Talk.ro Talk.av
  simp only [go_sem, ↓reduceIte]
  refine call_pure (hP ▸ s_toInit t.a) rfl rfl ?_
  simp only [Init.av, go_sem, ↓reduceIte]
  refine call_pure (hP ▸ s_toInit t.b) rfl rfl ?_
  simp only [Init.av, go_sem, ↓reduceIte]
  refine call_new1 (hP ▸ s_toSayS t.says hl) rfl (sayClosed _) (vws_self _ _ rfl) ?_
  simp only [go_sem, ↓reduceIte]
end Go.Cap

/- Contracts: comparing talks; TalkValid, twice. -/
namespace Go.Cap
open Go Go.Proofs
set_option maxRecDepth 100000
set_option linter.unusedSimpArgs false
set_option linter.unusedVariables false
attribute [local irreducible] Call Run Spec Le

theorem s_eqInit (x : Init) : Spec Try.prog 90 0 [] [x.av, x.av] (fun r _ _ _ => r = .bo true) := by
  refine mk90 rfl fun c hP hm => ?_
  unfold pc90 Init.av
  simp only [go_sem, ↓reduceIte]
theorem s_eqSay (x : Say) : Spec Try.prog 146 0 [] [x.av, x.av] (fun r _ _ _ => r = .bo true) := by
  refine mk146 rfl fun c hP hm => ?_
  unfold pc146 Say.av
  simp only [go_sem, ↓reduceIte]
theorem s_eqSayS (l : List Say) : Spec Try.prog 91 0 [] [.r (.ro none (l.map Say.row)), .r (.ro none (l.map Say.row))] (fun r _ _ _ => r = .bo true) := by
  refine mk91 rfl fun c hP hm => ?_
  unfold pc91
  simp only [go_sem, ↓reduceIte]
  intro hlen _
  refine lp_wpc (α := Nat) (fun i => ⟨[(0, .r (.ro none (l.map Say.row))), (1, .r (.ro none (l.map Say.row))), (5, .i i)], [], 0, []⟩) (fun i => i ≤ l.length) (fun i => l.length - i) 0 (Nat.zero_le _) (Le.refl _) ?_
  intro i hi
  unfold pc91l0
  simp only [go_sem, ↓reduceIte]
  intro _
  intro hlt
  have hil : i < l.length := by omega
  simp only [Int.toNat_natCast, getD_map hil, Say.row, go_sem, ↓reduceIte]
  refine ⟨⟨by omega, by omega⟩, ⟨by omega, by omega⟩, ?_⟩
  refine call_pure (hP ▸ s_eqSay l[i]) rfl rfl ?_
  simp only [go_sem, ↓reduceIte]
  rw [wrap64 (by omega) (by omega)]
  exact ⟨i + 1, hil, by omega, Le.refl _⟩
theorem s_eqTalk (t : Talk) : Spec Try.prog 39 0 [] [t.ro, t.ro] (fun r _ _ _ => r = .bo true) := by
  refine mk39 rfl fun c hP hm => ?_
  unfold pc39 Talk.ro Talk.av
  simp only [go_sem, ↓reduceIte]
  refine call_pure (hP ▸ s_eqInit t.a) rfl rfl ?_
  simp only [go_sem, ↓reduceIte]
  refine call_pure (hP ▸ s_eqInit t.b) rfl rfl ?_
  simp only [go_sem, ↓reduceIte]
  refine call_pure (hP ▸ s_eqSayS t.says) rfl rfl ?_
  simp only [go_sem, ↓reduceIte]
theorem s_l41Many (x : List UInt8) (n : Int) (h : x.length ≤ 60 ∧ 1 ≤ x.length ∧ 1 ≤ n ∧ n ≤ 20) : Spec Try.prog 77 0 [] [.st x, .i n] (fun r _ _ _ => r = .i ((x.length + n - 1) / n)) := by
  refine mk77 rfl fun c hP hm => ?_
  unfold pc77
  simp only [go_sem, ↓reduceIte]
  have e : (IntKind.i64.wrap (IntKind.i64.wrap (↑x.length + n) - 1)) = x.length + n - 1 := by
    rw [wrap64 (x := x.length + n) (by omega) (by omega), wrap64 (by omega) (by omega)]
  rw [e]
  have h1 : ((x.length : Int) + n - 1).tdiv n = ((x.length : Int) + n - 1) / n := Int.tdiv_eq_ediv_of_nonneg (by omega)
  have h2 : 0 ≤ ((x.length : Int) + n - 1) / n := Int.ediv_nonneg (by omega) (by omega)
  have h3 : ((x.length : Int) + n - 1) / n ≤ (x.length : Int) + n - 1 := Int.ediv_le_self _ (by omega)
  rw [h1, wrap64 (by omega) (by omega)]
  exact ⟨by omega, rfl⟩

def sayOk (t : Talk) (s : Say) : Bool := inB s.text.length 1 60 && (if s.byB then inB s.stream 0 (t.b.streams - 1) else inB s.stream 0 (t.a.streams - 1))
def talkHead (t : Talk) : Bool := inB t.fr 1 65535 && inB t.to 1 65535 && !(t.fr == t.to) && initB t.a && initB t.b && inB t.size 1 20
def manyOf (t : Talk) (s : Say) : Int := (s.text.length + t.size - 1) / t.size
def talkLoop (t : Talk) : List Say → Int → Int → Bool
  | [], a, b => decide (a ≤ 12) && decide (b ≤ 12)
  | s :: l, a, b => sayOk t s && (if s.byB then talkLoop t l a (b + manyOf t s) else talkLoop t l (a + manyOf t s) b)
def talkB (t : Talk) : Bool := talkHead t && decide (t.says.length ≤ 4) && talkLoop t t.says 0 0
theorem talkLoop_drop {t : Talk} {l : List Say} {i : Nat} (h : i < l.length) (a b : Int) : talkLoop t (l.drop i) a b =
    (sayOk t l[i] && (if l[i].byB then talkLoop t (l.drop (i + 1)) a (b + manyOf t l[i]) else talkLoop t (l.drop (i + 1)) (a + manyOf t l[i]) b)) := by
  rw [List.drop_eq_getElem_cons h]; rfl
theorem many_le {t : Talk} {s : Say} (h1 : 1 ≤ t.size ∧ t.size ≤ 20) (h2 : s.text.length ≤ 60) : 0 ≤ manyOf t s ∧ manyOf t s ≤ 80 := by
  unfold manyOf
  have h2 : 0 ≤ ((s.text.length : Int) + t.size - 1) / t.size := Int.ediv_nonneg (by omega) (by omega)
  have h3 : ((s.text.length : Int) + t.size - 1) / t.size ≤ (s.text.length : Int) + t.size - 1 := Int.ediv_le_self _ (by omega)
  omega

theorem s_specTalkValid (t : Talk) (hl : t.says.length ≤ 1048576) (hx : ∀ s ∈ t.says, s.text.length ≤ 1048576) : Spec Try.prog 74 0 [] [t.ro] (fun r _ _ _ => r = .bo (talkB t)) := by
  refine mk74 rfl fun c hP hm => ?_
  unfold pc74 Talk.ro Talk.av
  simp only [go_sem, ↓reduceIte]
  repeat' first | refine And.intro ?_ ?_ | intro _ | (refine c_l6In hP ?_; simp only [go_sem, ↓reduceIte]) | (refine call_pure (hP ▸ s_l12Init t.a) rfl rfl ?_; simp only [go_sem, ↓reduceIte]) | (refine call_pure (hP ▸ s_l12Init t.b) rfl rfl ?_; simp only [go_sem, ↓reduceIte])
  all_goals first | (simp [talkB, talkHead, *]; done) | skip
  rename_i h1 h2 h3 h4 h5 h6
  have hsz : 1 ≤ t.size ∧ t.size ≤ 20 := by simpa [inB] using h6
  have hhead : talkHead t = true := by simp [talkHead, *]
  refine lp_wpc (α := Nat × Int × Int) (fun y => ⟨[(1, .ptr 0 0 0), (3, .i y.2.1), (4, .i y.2.2), (5, .i y.1)],
      [(0, .var [.i t.fr, .i t.to, .i t.a.tag, .i t.a.window, .i t.a.streams, .i t.a.tsn, .i t.b.tag, .i t.b.window, .i t.b.streams, .i t.b.tsn, .i t.size, .r (.ro none (t.says.map Say.row))])], 1, []⟩)
    (fun y => y.1 ≤ t.says.length ∧ (0 ≤ y.2.1 ∧ y.2.1 ≤ 80 * y.1) ∧ (0 ≤ y.2.2 ∧ y.2.2 ≤ 80 * y.1) ∧ talkLoop t (t.says.drop y.1) y.2.1 y.2.2 = talkLoop t t.says 0 0) (fun y => t.says.length - y.1) (0, 0, 0)
    ⟨Nat.zero_le _, by simp, by simp, rfl⟩ (Le.refl _) ?_
  rintro ⟨i, a, b⟩ ⟨hi, ha, hb, hI⟩
  simp only at hi ha hb hI
  unfold pc74l0
  simp only [go_sem, ↓reduceIte]
  intro _
  refine ⟨fun hlt => ?_, fun hge => ?_⟩
  · have hil : i < t.says.length := by omega
    rw [talkLoop_drop hil] at hI
    simp only [Int.toNat_natCast, getD_map hil, Say.row, go_sem, ↓reduceIte]
    refine ⟨⟨by omega, by omega⟩, ?_⟩
    have hws : IntKind.i64.wrap (t.a.streams - 1) = t.a.streams - 1 ∧ IntKind.i64.wrap (t.b.streams - 1) = t.b.streams - 1 := by
      simp [initB] at h4 h5
      exact ⟨wrap64 (by omega) (by omega), wrap64 (by omega) (by omega)⟩
    obtain ⟨hwa, hwb⟩ := hws
    generalize t.says[i] = s at hI
    obtain ⟨byB, stream, loose, text⟩ := s
    simp only at hI
    have hfin : ∀ (k : Int), 0 ≤ k → k ≤ 1048576 * 80 → True := fun _ _ _ => trivial
    cases byB
    all_goals
      repeat' first | refine And.intro ?_ ?_ | intro _ | (refine c_l6In hP ?_; simp only [hwa, hwb, go_sem, ↓reduceIte])
    all_goals first
      | (refine bo_inj ?_; have hz : talkLoop t t.says 0 0 = false := (by rw [← hI]; clear hI; simp [sayOk, *]); simp [talkB, hz]; done)
      | skip
    all_goals
      rename_i k1 k2
      have hk1 : 1 ≤ (text.length : Int) ∧ (text.length : Int) ≤ 60 := by simpa [inB] using k1
      have hmn := many_le (s := ⟨false, stream, loose, text⟩) hsz (by simp only; omega)
      simp only [manyOf] at hmn
      refine call_pure (hP ▸ s_l41Many text t.size (by omega)) rfl rfl ?_
      simp only [go_sem, ↓reduceIte]
      simp [sayOk, k1, k2, manyOf] at hI
      rw [wrap64 (x := (i : Int) + 1) (by omega) (by omega), wrap64 (by omega) (by omega)]
    · exact ⟨(i + 1, _, b), ⟨hil, by simp only; omega, by simp only; omega, hI⟩, by simp only; omega, le_ev [] (by simp only [hm, go_sem, ↓reduceIte]; rfl)⟩
    · exact ⟨(i + 1, a, _), ⟨hil, by simp only; omega, by simp only; omega, hI⟩, by simp only; omega, le_ev [] (by simp only [hm, go_sem, ↓reduceIte]; rfl)⟩
  · have : i = t.says.length := by omega
    subst this
    rw [List.drop_eq_nil_of_le (Nat.le_refl _)] at hI
    simp only [talkLoop] at hI
    simp only [talkB, hhead, ← hI]
    repeat' first | refine And.intro ?_ ?_ | intro _
    all_goals (clear hI; refine bo_inj ?_; simp [*] <;> omega)

theorem s_implTalkValid (t : Talk) (hl : t.says.length ≤ 1048576) : Spec Try.prog 51 0 [] [t.ro] (fun r _ _ _ => r = .bo (talkB t)) := by
  refine mk51 rfl fun c hP hm => ?_
  unfold pc51 Talk.ro Talk.av
  simp only [go_sem, ↓reduceIte]
  repeat' first | refine And.intro ?_ ?_ | intro _ | (refine c_initOk hP ?_; simp only [go_sem, ↓reduceIte])
  all_goals first | (refine bo_inj ?_; simp [talkB, talkHead, inB, *] <;> omega) | skip
  rename_i h1 h1' h2 h2' h3 h4 h5 h6 h6' _ h7 _
  have hsz : 1 ≤ t.size ∧ t.size ≤ 20 := ⟨h6, h6'⟩
  have hhead : talkHead t = true := by simp [talkHead, inB, *]
  refine lp_wpc (α := Nat × Int × Int) (fun y => ⟨[(1, .ptr 0 0 0), (3, .ptr 1 0 0), (63, .r (.ro none (t.says.map Say.row))), (64, .i t.says.length), (65, .i y.1)],
      [(1, .var [.i y.2.1, .i y.2.2]), (0, .var [.i t.fr, .i t.to, .i t.a.tag, .i t.a.window, .i t.a.streams, .i t.a.tsn, .i t.b.tag, .i t.b.window, .i t.b.streams, .i t.b.tsn, .i t.size, .r (.ro none (t.says.map Say.row))])], 2, []⟩)
    (fun y => y.1 ≤ t.says.length ∧ (0 ≤ y.2.1 ∧ y.2.1 ≤ 80 * y.1) ∧ (0 ≤ y.2.2 ∧ y.2.2 ≤ 80 * y.1) ∧ talkLoop t (t.says.drop y.1) y.2.1 y.2.2 = talkLoop t t.says 0 0) (fun y => t.says.length - y.1) (0, 0, 0)
    ⟨Nat.zero_le _, by simp, by simp, rfl⟩ (Le.refl _) ?_
  rintro ⟨i, a, b⟩ ⟨hi, ha, hb, hI⟩
  simp only at hi ha hb hI
  unfold pc51l0
  simp only [go_sem, ↓reduceIte]
  refine ⟨fun hlt => ?_, fun hge => ?_⟩
  · have hil : i < t.says.length := by omega
    rw [talkLoop_drop hil] at hI
    simp only [Int.toNat_natCast, getD_map hil, Say.row, go_sem, ↓reduceIte]
    refine ⟨⟨by omega, by omega⟩, ?_⟩
    generalize t.says[i] = s at hI
    obtain ⟨byB, stream, loose, text⟩ := s
    simp only at hI
    cases byB
    all_goals
      simp only [go_sem, ↓reduceIte]
      repeat' first | refine And.intro ?_ ?_ | intro _
    all_goals first
      | (refine bo_inj ?_; have hz : talkLoop t t.says 0 0 = false := (by rw [← hI]; clear hI; simp [sayOk, inB, *] <;> omega); simp [talkB, hz]; done)
      | skip
    all_goals first | omega | skip
    all_goals
      rename_i k1 k2 k3 k4
      have hmn := many_le (s := ⟨false, stream, loose, text⟩) hsz (by simp only; omega)
      simp only [manyOf] at hmn
      have e : ((text.length : Int) + t.size - 1).tdiv t.size = ((text.length : Int) + t.size - 1) / t.size := Int.tdiv_eq_ediv_of_nonneg (by omega)
      simp only [sayOk, inB, manyOf, k1, k2, k3, k4, and_self, decide_true, Bool.true_and, if_true, Bool.false_eq_true, if_false] at hI
    · have k5 : stream ≤ t.a.streams - 1 := by omega
      simp only [k5, decide_true, Bool.true_and] at hI
      rw [wrap64 (x := (text.length : Int) + t.size) (by omega) (by omega), wrap64 (x := (text.length : Int) + t.size - 1) (by omega) (by omega), e, wrap64 (x := ((text.length : Int) + t.size - 1) / t.size) (by omega) (by omega), wrap64 (x := a + _) (by omega) (by omega), wrap64 (x := (i : Int) + 1) (by omega) (by omega)]
      exact ⟨(i + 1, _, b), ⟨hil, by simp only; omega, by simp only; omega, hI⟩, by simp only; omega, le_ev [] (by simp only [hm, go_sem, ↓reduceIte]; rfl)⟩
    · have k5 : stream ≤ t.b.streams - 1 := by omega
      simp only [k5, decide_true, Bool.true_and] at hI
      rw [wrap64 (x := (text.length : Int) + t.size) (by omega) (by omega), wrap64 (x := (text.length : Int) + t.size - 1) (by omega) (by omega), e, wrap64 (x := ((text.length : Int) + t.size - 1) / t.size) (by omega) (by omega), wrap64 (x := b + _) (by omega) (by omega), wrap64 (x := (i : Int) + 1) (by omega) (by omega)]
      exact ⟨(i + 1, a, _), ⟨hil, by simp only; omega, by simp only; omega, hI⟩, by simp only; omega, le_ev [] (by simp only [hm, go_sem, ↓reduceIte]; rfl)⟩
  · have : i = t.says.length := by omega
    subst this
    rw [List.drop_eq_nil_of_le (Nat.le_refl _)] at hI
    simp only [talkLoop] at hI
    simp only [talkB, hhead, ← hI]
    repeat' first | refine And.intro ?_ ?_ | intro _
    all_goals (clear hI; refine bo_inj ?_; simp [*] <;> omega)
end Go.Cap

/- Talks that came in. -/
namespace Go.Cap
open Go Go.Proofs
set_option maxRecDepth 100000
set_option linter.unusedSimpArgs false
set_option linter.unusedVariables false
attribute [local irreducible] Call Run Spec Le

abbrev I64 : CT := .i .i64
abbrev sayRow : List CT := [.b, I64, .b, .s]
abbrev talkRow : List CT := [I64, I64, I64, I64, I64, I64, I64, I64, I64, I64, I64, .sl sayRow]
theorem say_of (r : List RV) (h : RowOk sayRow r) : ∃ s : Say, r = s.row ∧ s.text.length ≤ maxLen := by
  obtain ⟨x0, r, rfl, h0, h⟩ := rowOk_cons h
  obtain ⟨x1, r, rfl, h1, h⟩ := rowOk_cons h
  obtain ⟨x2, r, rfl, h2, h⟩ := rowOk_cons h
  obtain ⟨x3, r, rfl, h3, h⟩ := rowOk_cons h
  obtain rfl := rowOk_nil h
  obtain ⟨a, rfl⟩ := okc_b h0
  obtain ⟨b, rfl, _⟩ := okc_i h1
  obtain ⟨d, rfl⟩ := okc_b h2
  obtain ⟨e, rfl, he⟩ := okc_s h3
  exact ⟨⟨a, b, d, e⟩, rfl, he⟩
theorem talk_of {xs : List RV} (h : RowOk talkRow xs) : ∃ t : Talk, AV.agg (xs.map .r) = t.ro ∧ t.says.length ≤ maxLen ∧ ∀ s ∈ t.says, s.text.length ≤ maxLen := by
  obtain ⟨x0, r, rfl, h0, h⟩ := rowOk_cons h
  obtain ⟨x1, r, rfl, h1, h⟩ := rowOk_cons h
  obtain ⟨x2, r, rfl, h2, h⟩ := rowOk_cons h
  obtain ⟨x3, r, rfl, h3, h⟩ := rowOk_cons h
  obtain ⟨x4, r, rfl, h4, h⟩ := rowOk_cons h
  obtain ⟨x5, r, rfl, h5, h⟩ := rowOk_cons h
  obtain ⟨x6, r, rfl, h6, h⟩ := rowOk_cons h
  obtain ⟨x7, r, rfl, h7, h⟩ := rowOk_cons h
  obtain ⟨x8, r, rfl, h8, h⟩ := rowOk_cons h
  obtain ⟨x9, r, rfl, h9, h⟩ := rowOk_cons h
  obtain ⟨xa, r, rfl, ha, h⟩ := rowOk_cons h
  obtain ⟨xb, r, rfl, hb, h⟩ := rowOk_cons h
  obtain rfl := rowOk_nil h
  obtain ⟨n0, rfl, _⟩ := okc_i h0
  obtain ⟨n1, rfl, _⟩ := okc_i h1
  obtain ⟨n2, rfl, _⟩ := okc_i h2
  obtain ⟨n3, rfl, _⟩ := okc_i h3
  obtain ⟨n4, rfl, _⟩ := okc_i h4
  obtain ⟨n5, rfl, _⟩ := okc_i h5
  obtain ⟨n6, rfl, _⟩ := okc_i h6
  obtain ⟨n7, rfl, _⟩ := okc_i h7
  obtain ⟨n8, rfl, _⟩ := okc_i h8
  obtain ⟨n9, rfl, _⟩ := okc_i h9
  obtain ⟨na, rfl, _⟩ := okc_i ha
  obtain ⟨L, rfl, hL, hrows⟩ := okc_sl hb
  obtain ⟨l, rfl, hl⟩ := rows_of say_of hrows
  exact ⟨⟨n0, n1, ⟨n2, n3, n4, n5⟩, ⟨n6, n7, n8, n9⟩, na, l⟩, rfl, by simpa using hL, hl⟩
theorem vw_talk {hp : List (Nat × Blk)} {b : Nat} {t : Talk} {n : Nat} (h : hget hp b = some (.row 4 (t.says.map Say.row))) (hn : n = t.says.length) : Vw hp (t.av (.sl b 0 n)) t.ro :=
  vw_agg (.cons (.r _) (.cons (.r _) (.cons (.r _) (.cons (.r _) (.cons (.r _) (.cons (.r _) (.cons (.r _) (.cons (.r _) (.cons (.r _) (.cons (.r _) (.cons (.r _) (.cons (Vw.full h (by simpa using hn)) .nil))))))))))))

end Go.Cap

/- What a valid talk promises. -/
namespace Go.Cap
open Go Go.Proofs
set_option linter.unusedSimpArgs false
set_option linter.unusedVariables false

theorem talk_ok {t : Talk} (h : talkB t = true) : (1 ≤ t.size ∧ t.size ≤ 20) ∧ t.says.length ≤ 4 ∧ (∀ s ∈ t.says, 1 ≤ s.text.length ∧ s.text.length ≤ 60 ∧ 0 ≤ s.stream ∧ s.stream < (if s.byB then t.b.streams else t.a.streams)) ∧ (0 ≤ t.a.tsn ∧ t.a.tsn < 65536) ∧ (0 ≤ t.b.tsn ∧ t.b.tsn < 65536) ∧
    (1 ≤ t.a.streams ∧ t.a.streams ≤ 4) ∧ (1 ≤ t.b.streams ∧ t.b.streams ≤ 4) := by
  simp only [talkB, talkHead, inB, initB, serialB, Bool.and_eq_true, decide_eq_true_eq] at h
  obtain ⟨⟨⟨⟨⟨⟨h1, h2⟩, ⟨⟨⟨_, _, h9, h10⟩, _⟩, h3⟩⟩, ⟨⟨⟨_, _, h11, h12⟩, _⟩, h4⟩⟩, h5⟩, h6⟩, h7⟩ := h
  refine ⟨h5, by omega, ?_, h3, h4, ⟨h9, h10⟩, ⟨h11, h12⟩⟩
  have key : ∀ (l : List Say) (a b : Int), talkLoop t l a b = true → ∀ s ∈ l, sayOk t s = true := by
    intro l
    induction l with
    | nil => intro a b _ s hs; cases hs
    | cons x l ih =>
      intro a b h s hs
      simp only [talkLoop, Bool.and_eq_true] at h
      rcases List.mem_cons.1 hs with rfl | hs
      · exact h.1
      · have := h.2
        split at this
        · exact ih _ _ this s hs
        · exact ih _ _ this s hs
  intro s hs
  have := key _ _ _ h7 s hs
  simp only [sayOk, inB, Bool.and_eq_true, decide_eq_true_eq] at this
  obtain ⟨⟨k1, k2⟩, k3⟩ := this
  cases hb : s.byB
  · rw [hb] at k3; simp at k3; simp; omega
  · rw [hb] at k3; simp at k3; simp; omega
end Go.Cap

/- The parts of a talk, in plain terms. -/
namespace Go.Cap
set_option linter.unusedVariables false
set_option linter.unusedSimpArgs false

def l3 (a n : Int) : Int := (a + n) % 65536
structure Data where
  tsn : Int
  stream : Int
  ssn : Int
  first : Bool
  last : Bool
  loose : Bool
  text : List UInt8
def Data.row (d : Data) : List RV := [.n .i64 d.tsn, .n .i64 d.stream, .n .i64 d.ssn, .b d.first, .b d.last, .b d.loose, .s d.text]
def Data.av (d : Data) : AV := .agg [.i d.tsn, .i d.stream, .i d.ssn, .bo d.first, .bo d.last, .bo d.loose, .st d.text]

/-- How many parts a text of 'n' bytes has. -/
def manyN (n sz : Nat) : Nat := (n + sz - 1) / sz
/-- Part 'j' of a message. -/
def part (sz : Nat) (tsn : Int) (ssn : Int) (s : Say) (j : Nat) : Data := ⟨l3 tsn j, s.stream, ssn, decide (j = 0), decide (s.text.length ≤ (j + 1) * sz), s.loose, (s.text.take ((j + 1) * sz)).drop (j * sz)⟩
def chunks (sz : Nat) (tsn ssn : Int) (s : Say) : List Data := (List.range (manyN s.text.length sz)).map (part sz tsn ssn s)
/-- How many ordered messages of a stream begin in parts. -/
def ssnIn (out : List Data) (stream : Int) : Nat := out.countP fun d => d.first && !d.loose && d.stream == stream
def ssnOf (out : List Data) (s : Say) : Int := if s.loose then 0 else ssnIn out s.stream
def nextParts (sz : Nat) (tsn : Int) (out : List Data) (s : Say) : List Data := chunks sz (l3 tsn out.length) (ssnOf out s) s
/-- The parts of a side, behind those that are there. -/
def partsAcc (sz : Nat) (tsn : Int) (byB : Bool) : List Say → List Data → List Data
  | [], out => out
  | s :: l, out => partsAcc sz tsn byB l (if s.byB = byB then out ++ nextParts sz tsn out s else out)
def Talk.tsn (t : Talk) (byB : Bool) : Int := if byB then t.b.tsn else t.a.tsn
def talkParts (t : Talk) (byB : Bool) : List Data := if talkB t then partsAcc t.size.toNat (t.tsn byB) byB t.says [] else []

theorem l3_l3 (a m n : Int) : l3 (l3 a m) n = l3 a (m + n) := by unfold l3; omega
theorem l3_range (a n : Int) : 0 ≤ l3 a n ∧ l3 a n < 65536 := by unfold l3; omega
theorem serial_l3 (a n : Int) : serialB (l3 a n) = true := by have := l3_range a n; simp [serialB]; omega
theorem l3_zero {a : Int} (h : 0 ≤ a ∧ a < 65536) : l3 a 0 = a := by unfold l3; omega
theorem many_lt {n sz j : Nat} (hsz : 1 ≤ sz) : j < manyN n sz ↔ j * sz < n := by
  unfold manyN
  rw [Nat.lt_div_iff_mul_lt hsz]
  constructor <;> intro h <;> omega
theorem chunks_len (sz : Nat) (tsn ssn : Int) (s : Say) : (chunks sz tsn ssn s).length = manyN s.text.length sz := by simp [chunks]
theorem chunks_get {sz : Nat} {tsn ssn : Int} {s : Say} {j : Nat} (h : j < manyN s.text.length sz) : (chunks sz tsn ssn s)[j]? = some (part sz tsn ssn s j) := by simp [chunks, h]
theorem take_chunks {sz : Nat} {tsn ssn : Int} {s : Say} {j : Nat} (h : j < manyN s.text.length sz) : (chunks sz tsn ssn s).take (j + 1) = (chunks sz tsn ssn s).take j ++ [part sz tsn ssn s j] := by
  rw [List.take_add_one, chunks_get h]; rfl
theorem ssnIn_app (a b : List Data) (x : Int) : ssnIn (a ++ b) x = ssnIn a x + ssnIn b x := by simp [ssnIn, List.countP_append]
theorem ssnIn_chunks {sz : Nat} (hsz : 1 ≤ sz) (tsn ssn : Int) (s : Say) (h1 : 1 ≤ s.text.length) (x : Int) : ssnIn (chunks sz tsn ssn s) x = if s.loose = false ∧ s.stream = x then 1 else 0 := by
  have hm : 0 < manyN s.text.length sz := (many_lt hsz).2 (by omega)
  obtain ⟨m, hm⟩ : ∃ m, manyN s.text.length sz = m + 1 := ⟨manyN s.text.length sz - 1, by omega⟩
  unfold ssnIn chunks
  rw [hm, List.range_succ_eq_map, List.map_cons, List.countP_cons]
  have h0 : List.countP (fun d : Data => d.first && !d.loose && d.stream == x) (((List.range m).map Nat.succ).map (part sz tsn ssn s)) = 0 := by
    rw [List.countP_eq_zero]
    intro d hd
    simp only [List.map_map, List.mem_map, Function.comp] at hd
    obtain ⟨j, _, rfl⟩ := hd
    simp [part]
  rw [h0]
  simp only [part]
  cases hl : s.loose <;> simp [hl]
theorem partsAcc_drop {sz : Nat} {tsn : Int} {byB : Bool} {l : List Say} {i : Nat} (h : i < l.length) (out : List Data) : partsAcc sz tsn byB (l.drop i) out = partsAcc sz tsn byB (l.drop (i + 1)) (if l[i].byB = byB then out ++ nextParts sz tsn out l[i] else out) := by
  rw [List.drop_eq_getElem_cons h]; rfl
theorem many_le2 {n sz : Nat} (hsz : 1 ≤ sz) : manyN n sz ≤ n := by
  unfold manyN
  rcases Nat.eq_zero_or_pos n with h | h
  · subst h; simp; omega
  · rw [Nat.div_le_iff_le_mul_add_pred (by omega)]
    have : n ≤ n * sz := Nat.le_mul_of_pos_right n (by omega)
    have e : sz * n = n * sz := Nat.mul_comm _ _
    omega
theorem nextParts_len (sz : Nat) (tsn : Int) (out : List Data) (s : Say) : (nextParts sz tsn out s).length = manyN s.text.length sz := by simp [nextParts, chunks_len]
theorem take_get {α : Type} {l : List α} {i : Nat} (h : i < l.length) : l.take (i + 1) = l.take i ++ [l[i]] := by rw [List.take_add_one, List.getElem?_eq_getElem h]; rfl
theorem ssnIn_take {l : List Data} {i : Nat} (h : i < l.length) (x : Int) : ssnIn (l.take (i + 1)) x = ssnIn (l.take i) x + (if l[i].first = true ∧ l[i].loose = false ∧ l[i].stream = x then 1 else 0) := by
  rw [take_get h, ssnIn_app]
  congr 1
  simp only [ssnIn, List.countP_cons, List.countP_nil]
  cases l[i].first <;> cases l[i].loose <;> simp
theorem ssnIn_le (l : List Data) (x : Int) : ssnIn l x ≤ l.length := List.countP_le_length
end Go.Cap

/- Contracts: serial numbers; the reference's parts. -/
namespace Go.Cap
open Go Go.Proofs
set_option maxRecDepth 100000
set_option linter.unusedSimpArgs false
set_option linter.unusedVariables false
attribute [local irreducible] Call Run Spec Le

theorem tmod64k (n : Int) : -65536 < n.tmod 65536 ∧ n.tmod 65536 < 65536 ∧ (n.tmod 65536 - n) % 65536 = 0 := by
  rcases Int.lt_or_le n 0 with h | h
  · have e : n.tmod 65536 = -((-n).tmod 65536) := by rw [← Int.neg_tmod, Int.neg_neg]
    rw [e, Int.tmod_eq_emod_of_nonneg (by omega)]; omega
  · rw [Int.tmod_eq_emod_of_nonneg h]; omega
theorem s_l3Add (a n : Int) (ha : 0 ≤ a ∧ a < 65536) : Spec Try.prog 139 0 [] [.i a, .i n] (fun r _ _ _ => r = .i (l3 a n)) := by
  refine mk139 rfl fun c hP hm => ?_
  unfold pc139
  simp only [go_sem, ↓reduceIte]
  obtain ⟨h1, h2, h3⟩ := tmod64k n
  simp (disch := omega) only [wrap64]
  rw [Int.tmod_eq_emod_of_nonneg (by omega)]
  unfold l3
  congr 2; omega
theorem s_SerialAdd (a n : Int) : Spec Try.prog 111 0 [] [.i a, .i n] (fun r _ _ _ => r = .i (if serialB a then l3 a n else -1)) := by
  refine mk111 rfl fun c hP hm => ?_
  unfold pc111
  simp only [go_sem, ↓reduceIte]
  refine c_serialOk hP ?_
  simp only [go_sem, ↓reduceIte]
  refine ⟨fun h => ?_, fun h => ?_⟩
  · rw [h]; rfl
  · have ha : 0 ≤ a ∧ a < 65536 := by simpa [serialB] using h
    obtain ⟨h1, h2, h3⟩ := tmod64k n
    have h4 := tmod64k (a + n.tmod 65536)
    simp (disch := omega) only [wrap64]
    rw [Int.tmod_eq_emod_of_nonneg (a := (a + n.tmod 65536).tmod 65536 + 65536) (by omega), h, if_pos rfl]
    unfold l3
    congr 2; omega
theorem s_l31Ssn (l : List Data) (x : Int) (hl : l.length ≤ 4000000) : Spec Try.prog 138 0 [] [.r (.ro none (l.map Data.row)), .i x] (fun r _ _ _ => r = .i (ssnIn l x)) := by
  refine mk138 rfl fun c hP hm => ?_
  unfold pc138
  simp only [go_sem, ↓reduceIte]
  refine lp_wpc (α := Nat) (fun i => ⟨[(0, .r (.ro none (l.map Data.row))), (1, .i x), (5, .i (ssnIn (l.take i) x)), (6, .i i)], [], 0, []⟩) (fun i => i ≤ l.length) (fun i => l.length - i) 0 (Nat.zero_le _) (le_eq (by simp [ssnIn])) ?_
  intro i hi
  unfold pc138l0
  simp only [go_sem, ↓reduceIte]
  intro _
  refine ⟨fun hlt => ?_, fun hge => ?_⟩
  · have hil : i < l.length := by omega
    have hs := ssnIn_take hil x
    have hle := ssnIn_le (l.take i) x
    simp only [List.length_take] at hle
    simp only [Int.toNat_natCast, getD_map hil, Data.row, go_sem, ↓reduceIte]
    generalize hd : l[i] = d at hs
    obtain ⟨a, b, e, f, g, h, k⟩ := d
    simp only at hs
    simp only [Data.row, go_sem, ↓reduceIte]
    refine ⟨⟨by omega, by omega⟩, ?_⟩
    have e1 : IntKind.i64.wrap ((i : Int) + 1) = ((i + 1 : Nat) : Int) := by rw [wrap64 (by omega) (by omega)]; omega
    have e2 : IntKind.i64.wrap ((ssnIn (l.take i) x : Int) + 1) = ((ssnIn (l.take i) x + 1 : Nat) : Int) := by rw [wrap64 (by omega) (by omega)]; omega
    rw [e1, e2]
    repeat' first | refine And.intro ?_ ?_ | intro _
    all_goals first
      | omega
      | (simp only [*, if_true, if_false, Bool.false_eq_true, and_self, true_and, false_and, and_false, reduceCtorEq] at hs
         exact ⟨i + 1, hil, by omega, le_eq (by rw [hs] <;> rfl)⟩)
  · have : i = l.length := by omega
    subst this
    simp

/-- What a valid talk promises. -/
theorem loop_l41Parts {c : Cx} (hP : c.P = Try.prog) (hm : c.m = 0) (t : Talk) (byB : Bool) (f : Int) (z : Nat) (hv : talkB t = true) (hz : t.size = z) (hf : 0 ≤ f ∧ f < 65536) {n r : St → Prop} {x : Nat → St → Prop}
    (hx : ∀ v k, x 0 ⟨[(1, .bo byB), (2, .ptr 0 0 0), (5, .i f), (6, .sl 1 0 (partsAcc z f byB t.says []).length), (7, k), (25, v)],
      [(1, .row 7 ((partsAcc z f byB t.says []).map Data.row)), (0, .var [.i t.fr, .i t.to, .i t.a.tag, .i t.a.window, .i t.a.streams, .i t.a.tsn, .i t.b.tag, .i t.b.window, .i t.b.streams, .i t.b.tsn, .i t.size, .r (.ro none (t.says.map Say.row))])], 2, []⟩) :
    Run c (.lp pc76l1) ⟨[(1, .bo byB), (2, .ptr 0 0 0), (5, .i f), (6, .sl 1 0 0), (7, .i 0)],
      [(1, .row 7 []), (0, .var [.i t.fr, .i t.to, .i t.a.tag, .i t.a.window, .i t.a.streams, .i t.a.tsn, .i t.b.tag, .i t.b.window, .i t.b.streams, .i t.b.tsn, .i t.size, .r (.ro none (t.says.map Say.row))])], 2, []⟩ n x r := by
  obtain ⟨hsz, hlen, hsays, hta, htb, _, _⟩ := talk_ok hv
  have hz1 : 1 ≤ z ∧ z ≤ 20 := by omega
  refine lp_wpc (α := Nat × List Data) (fun y => ⟨[(1, .bo byB), (2, .ptr 0 0 0), (5, .i f), (6, .sl 1 0 y.2.length), (7, .i y.1)],
      [(1, .row 7 (y.2.map Data.row)), (0, .var [.i t.fr, .i t.to, .i t.a.tag, .i t.a.window, .i t.a.streams, .i t.a.tsn, .i t.b.tag, .i t.b.window, .i t.b.streams, .i t.b.tsn, .i t.size, .r (.ro none (t.says.map Say.row))])], 2, []⟩)
    (fun y => y.1 ≤ t.says.length ∧ y.2.length ≤ 60 * y.1 ∧ partsAcc z f byB (t.says.drop y.1) y.2 = partsAcc z f byB t.says []) (fun y => t.says.length - y.1) (0, [])
    ⟨Nat.zero_le _, Nat.zero_le _, rfl⟩ (Le.refl _) ?_
  rintro ⟨i, out⟩ ⟨hi, ho, hI⟩
  simp only at hi ho hI
  unfold pc76l1
  simp only [go_sem, ↓reduceIte]
  intro _
  refine ⟨fun hlt => ?_, fun hge => ?_⟩
  · have hil : i < t.says.length := by omega
    rw [partsAcc_drop hil] at hI
    obtain ⟨q1, q2, q3, q4⟩ := hsays _ (List.getElem_mem hil)
    simp only [Int.toNat_natCast, getD_map hil, Say.row, go_sem, ↓reduceIte]
    generalize t.says[i] = s at hI q1 q2 q3 q4
    refine ⟨⟨by omega, by omega⟩, ?_⟩
    -- the inner loop
    have hml := many_le2 (n := s.text.length) hz1.1
    have inner : ∀ (ssn : Int), ssn = ssnOf out s → ∀ {n r : St → Prop} {x : Nat → St → Prop}, (∀ out', partsAcc z f byB (t.says.drop (i + 1)) out' = partsAcc z f byB t.says [] → out'.length ≤ 60 * (i + 1) → x 2 ⟨[(1, .bo byB), (2, .ptr 0 0 0), (5, .i f), (6, .sl 1 0 out'.length), (7, .i i)],
          [(1, .row 7 (out'.map Data.row)), (0, .var [.i t.fr, .i t.to, .i t.a.tag, .i t.a.window, .i t.a.streams, .i t.a.tsn, .i t.b.tag, .i t.b.window, .i t.b.streams, .i t.b.tsn, .i t.size, .r (.ro none (t.says.map Say.row))])], 2, []⟩) →
        Run c (.lp pc76l0) ⟨[(1, .bo byB), (2, .ptr 0 0 0), (5, .i f), (6, .sl 1 0 out.length), (7, .i i), (8, .ptr 2 0 0), (9, .i ssn), (10, .i 0)],
        [(2, .var [.bo s.byB, .i s.stream, .bo s.loose, .st s.text]), (1, .row 7 (out.map Data.row)), (0, .var [.i t.fr, .i t.to, .i t.a.tag, .i t.a.window, .i t.a.streams, .i t.a.tsn, .i t.b.tag, .i t.b.window, .i t.b.streams, .i t.b.tsn, .i t.size, .r (.ro none (t.says.map Say.row))])], 3, []⟩ n x r := by
      intro ssn hssn n r x hx
      refine run_exit 2 (fun t0 => ∃ out', t0 = ⟨[(1, .bo byB), (2, .ptr 0 0 0), (5, .i f), (6, .sl 1 0 out'.length), (7, .i i)], [(1, .row 7 (out'.map Data.row)), (0, .var [.i t.fr, .i t.to, .i t.a.tag, .i t.a.window, .i t.a.streams, .i t.a.tsn, .i t.b.tag, .i t.b.window, .i t.b.streams, .i t.b.tsn, .i t.size, .r (.ro none (t.says.map Say.row))])], 2, []⟩ ∧ partsAcc z f byB (t.says.drop (i + 1)) out' = partsAcc z f byB t.says [] ∧ out'.length ≤ 60 * (i + 1)) ?_
        (fun t0 ⟨out', h1, h2, h3⟩ => by rw [h1]; exact hx out' h2 h3)
      refine lp_wpc (α := Nat) (fun j => ⟨[(1, .bo byB), (2, .ptr 0 0 0), (5, .i f), (6, .sl 1 0 (out.length + j)), (7, .i i), (8, .ptr 2 0 0), (9, .i ssn), (10, .i (j * z : Nat))],
        [(2, .var [.bo s.byB, .i s.stream, .bo s.loose, .st s.text]), (1, .row 7 ((out ++ (nextParts z f out s).take j).map Data.row)), (0, .var [.i t.fr, .i t.to, .i t.a.tag, .i t.a.window, .i t.a.streams, .i t.a.tsn, .i t.b.tag, .i t.b.window, .i t.b.streams, .i t.b.tsn, .i t.size, .r (.ro none (t.says.map Say.row))])], 3, []⟩)
        (fun j => if s.byB = byB then j ≤ manyN s.text.length z else j = 0) (fun j => manyN s.text.length z - j) 0 (by simp) (le_eq (by simp)) ?_
      intro j hj
      unfold pc76l0
      simp only [go_sem, ↓reduceIte]
      have hout : ∀ j, j ≤ manyN s.text.length z → (out ++ (nextParts z f out s).take j).length = out.length + j := fun j hj => by
        simp [nextParts_len]; omega
      have hjs : j ≤ manyN s.text.length z := by split at hj <;> omega
      refine ⟨fun hlt2 => ?_, fun hge2 => ?_⟩
      · refine ⟨fun hb => ?_, fun hb => ?_⟩
        · rw [if_pos hb] at hj
          intro _
          have hjm : j < manyN s.text.length z := (many_lt hz1.1).2 (by omega)
          have hadd : (j + 1) * z = j * z + z := by rw [Nat.add_mul, Nat.one_mul]
          have e1 : IntKind.i64.wrap (((j * z : Nat) : Int) + t.size) = (((j + 1) * z : Nat) : Int) := by rw [wrap64 (by omega) (by omega)]; omega
          rw [e1]
          generalize hE : (if (s.text.length : Int) < (((j + 1) * z : Nat) : Int) then (s.text.length : Int) else (((j + 1) * z : Nat) : Int)) = E
          have hE1 : E = min (s.text.length : Int) (((j + 1) * z : Nat) : Int) := by rw [← hE]; split <;> omega
          refine ⟨⟨by omega, by omega, by omega⟩, ?_⟩
          have hpart : (part z (l3 f out.length) ssn s j).row = [.n .i64 (l3 f ((out.length + j : Nat) : Int)), .n .i64 s.stream, .n .i64 ssn, .b (((j * z : Nat) : Int) == 0), .b (E == s.text.length), .b s.loose, .s ((s.text.take E.toNat).drop ((j * z : Nat) : Int).toNat)] := by
            simp only [part, Data.row, l3_l3]
            have k1 : (decide (j = 0)) = (((j * z : Nat) : Int) == 0) := by
              rw [Bool.eq_iff_iff]; simp only [decide_eq_true_eq, beq_iff_eq]
              constructor
              · rintro rfl; simp
              · intro h
                have : j * z = 0 := by omega
                rcases Nat.mul_eq_zero.1 this with h | h <;> omega
            have k2 : (decide (s.text.length ≤ (j + 1) * z)) = (E == s.text.length) := by
              rw [Bool.eq_iff_iff]; simp only [decide_eq_true_eq, beq_iff_eq]; omega
            have k3 : s.text.take ((j + 1) * z) = s.text.take E.toNat := by
              rcases Nat.lt_or_ge s.text.length ((j + 1) * z) with h | h
              · have : E.toNat = s.text.length := by omega
                rw [this, List.take_of_length_le (by omega), List.take_of_length_le (by omega)]
              · have : E.toNat = (j + 1) * z := by omega
                rw [this]
            rw [k1, k2, k3, Int.toNat_natCast, show ((out.length : Int) + (j : Int)) = ((out.length + j : Nat) : Int) by omega]
          have hstep : (out ++ (nextParts z f out s).take j).map Data.row ++ [(part z (l3 f out.length) ssn s j).row] = (out ++ (nextParts z f out s).take (j + 1)).map Data.row := by
            rw [show (nextParts z f out s).take (j + 1) = (nextParts z f out s).take j ++ [part z (l3 f out.length) ssn s j] by rw [hssn]; exact take_chunks hjm]
            simp
          rw [hpart] at hstep
          have e2 : IntKind.i64.wrap (((j * z : Nat) : Int) + t.size) = (((j + 1) * z : Nat) : Int) := e1
          have htk2 : List.take (out.length + j) (List.map Data.row (out ++ List.take j (nextParts z f out s))) = List.map Data.row (out ++ List.take j (nextParts z f out s)) := List.take_of_length_le (by rw [List.length_map, hout j (by omega)]; omega)
          have hlk : (List.take j (nextParts z f out s)).length = j := by simp [nextParts_len]; omega
          repeat' first
            | refine And.intro ?_ ?_
            | (refine call_pure (hP ▸ s_l3Add f ((out.length + j : Nat) : Int) hf) rfl rfl ?_
               simp only [hm, go_sem, ↓reduceIte]
               rw [htk2, hstep, e2])
          all_goals first
            | omega
            | (refine ⟨j + 1, by rw [if_pos hb]; omega, by omega, le_ev [] ?_⟩
               simp only [hm, go_sem, ↓reduceIte]
               rfl)
        · rw [if_neg hb] at hj hI
          subst hj
          exact ⟨_, ⟨out, rfl, hI, by omega⟩, le_ev [] (by simp only [hm, go_sem, ↓reduceIte, List.take_zero, List.append_nil, Nat.add_zero, Nat.reduceLeDiff])⟩
      · by_cases hb : s.byB = byB
        · rw [if_pos hb] at hj hI
          have hjm : j = manyN s.text.length z := by
            rcases Nat.lt_or_ge j (manyN s.text.length z) with h | h
            · have := (many_lt hz1.1).1 h; omega
            · omega
          have htk : (nextParts z f out s).take j = nextParts z f out s := List.take_of_length_le (by rw [nextParts_len]; omega)
          rw [htk]
          have hl : out.length + j = (out ++ nextParts z f out s).length := by rw [List.length_append, nextParts_len]; omega
          exact ⟨_, ⟨out ++ nextParts z f out s, rfl, hI, by rw [← hl]; omega⟩, le_ev [] (by simp only [hm, hl, go_sem, ↓reduceIte, Nat.reduceLeDiff])⟩
        · rw [if_neg hb] at hj hI
          subst hj
          exact ⟨_, ⟨out, rfl, hI, by omega⟩, le_ev [] (by simp only [hm, go_sem, ↓reduceIte, List.take_zero, List.append_nil, Nat.add_zero, Nat.reduceLeDiff])⟩
    refine ⟨fun hlo => ?_, fun hlo => ?_⟩
    · refine call_flat (hP ▸ s_l31Ssn out s.stream (by omega)) rfl (.cons (Vw.full rfl (by simp)) (.cons (.r _) .nil)) ?_
      simp only [go_sem, ↓reduceIte]
      refine inner _ (by simp [ssnOf, hlo]) fun out' h1 h2 => ?_
      simp only [go_sem, ↓reduceIte]
      rw [wrap64 (by omega) (by omega)]
      exact ⟨(i + 1, out'), ⟨hil, h2, h1⟩, by simp only; omega, Le.refl _⟩
    · refine inner _ (by simp [ssnOf, hlo]) fun out' h1 h2 => ?_
      simp only [go_sem, ↓reduceIte]
      rw [wrap64 (by omega) (by omega)]
      exact ⟨(i + 1, out'), ⟨hil, h2, h1⟩, by simp only; omega, Le.refl _⟩
  · have : i = t.says.length := by omega
    subst this
    rw [List.drop_eq_nil_of_le (Nat.le_refl _)] at hI
    simp only [partsAcc] at hI
    rw [hI]
    exact hx _ _

theorem s_l41Parts (t : Talk) (byB : Bool) (hv : talkB t = true) : Spec Try.prog 76 0 [] [t.ro, .bo byB] (New1 (.sl 0 0 (talkParts t byB).length) 7 ((talkParts t byB).map Data.row)) := by
  refine Spec.new1 (Q := fun r hp _ _ => r = .sl 1 0 (talkParts t byB).length ∧ hget hp 1 = some (.row 7 ((talkParts t byB).map Data.row))) ?_ (fun r hp nx gs h => ⟨1, h.1, h.2⟩) (fun f g h => by simp only [go_sem, h])
  obtain ⟨hsz, hlen, hsays, hta, htb, _, _⟩ := talk_ok hv
  have hz : t.size = (t.size.toNat : Int) := by omega
  refine mk76 rfl fun c hP hm => ?_
  unfold pc76 Talk.ro Talk.av talkParts
  rw [if_pos hv]
  cases byB
  all_goals
    simp only [Talk.tsn, if_true, if_false, Bool.false_eq_true]
    simp only [go_sem, ↓reduceIte]
  · refine loop_l41Parts hP hm t false t.a.tsn _ hv hz hta fun v k => ?_
    simp only [go_sem, ↓reduceIte]
  · refine loop_l41Parts hP hm t true t.b.tsn _ hv hz htb fun v k => ?_
    simp only [go_sem, ↓reduceIte]
end Go.Cap

/- The parts of a talk as the program lays them: one list a message. -/
namespace Go.Cap
set_option linter.unusedVariables false
set_option linter.unusedSimpArgs false

def tpRow (b : Bool) (d : Data) : List RV := .b b :: d.row
def lists (z : Nat) (ta tb : Int) : List Say → List Data → List Data → List (Bool × List Data)
  | [], _, _ => []
  | s :: l, f, g => if s.byB then (true, nextParts z tb g s) :: lists z ta tb l f (g ++ nextParts z tb g s) else (false, nextParts z ta f s) :: lists z ta tb l (f ++ nextParts z ta f s) g
def listRow (x : Bool × List Data) : List RV := [.ro none (x.2.map (tpRow x.1))]
theorem lists_drop {z : Nat} {ta tb : Int} {l : List Say} {i : Nat} (h : i < l.length) (f g : List Data) : lists z ta tb (l.drop i) f g =
    if l[i].byB then (true, nextParts z tb g l[i]) :: lists z ta tb (l.drop (i + 1)) f (g ++ nextParts z tb g l[i]) else (false, nextParts z ta f l[i]) :: lists z ta tb (l.drop (i + 1)) (f ++ nextParts z ta f l[i]) g := by
  rw [List.drop_eq_getElem_cons h]; rfl

/-- The counters of a side's streams. -/
def cnt (f : List Data) : List AV := [.i (ssnIn f 0), .i (ssnIn f 1), .i (ssnIn f 2), .i (ssnIn f 3)]
def cnts (f g : List Data) : List AV := [.i (ssnIn f 0), .i (ssnIn f 1), .i (ssnIn f 2), .i (ssnIn f 3), .i (ssnIn g 0), .i (ssnIn g 1), .i (ssnIn g 2), .i (ssnIn g 3)]
def cntsR (f g : List Data) : List RV := [.n .i64 (ssnIn f 0), .n .i64 (ssnIn f 1), .n .i64 (ssnIn f 2), .n .i64 (ssnIn f 3), .n .i64 (ssnIn g 0), .n .i64 (ssnIn g 1), .n .i64 (ssnIn g 2), .n .i64 (ssnIn g 3)]
theorem cntsR_map (f g : List Data) : cnts f g = (cntsR f g).map .r := rfl
theorem stream4 {x : Int} (h : 0 ≤ x ∧ x < 4) : x = 0 ∨ x = 1 ∨ x = 2 ∨ x = 3 := by omega
theorem cnts_a {f g : List Data} {x : Int} (h : 0 ≤ x ∧ x < 4) : aget (cnts f g) x.toNat = .i (ssnIn f x) := by
  rcases stream4 h with rfl | rfl | rfl | rfl <;> rfl
theorem cnts_b {f g : List Data} {x : Int} (h : 0 ≤ x ∧ x < 4) : aget (cnts f g) (4 + x.toNat) = .i (ssnIn g x) := by
  rcases stream4 h with rfl | rfl | rfl | rfl <;> rfl
theorem ssnIn_next {z : Nat} (hz : 1 ≤ z) (tsn : Int) (f : List Data) (s : Say) (h1 : 1 ≤ s.text.length) (y : Int) : ssnIn (f ++ nextParts z tsn f s) y = ssnIn f y + (if s.loose = false ∧ s.stream = y then 1 else 0) := by
  rw [ssnIn_app]; unfold nextParts; rw [ssnIn_chunks hz _ _ _ h1]
theorem cnts_seta {z : Nat} (hz : 1 ≤ z) {tsn : Int} {f g : List Data} {s : Say} (h1 : 1 ≤ s.text.length) (h : 0 ≤ s.stream ∧ s.stream < 4) (hl : s.loose = false) : (cnts f g).set s.stream.toNat (.i ((ssnIn f s.stream : Int) + 1)) = cnts (f ++ nextParts z tsn f s) g := by
  have e := fun y => ssnIn_next hz tsn f s h1 y
  unfold cnts
  rw [e 0, e 1, e 2, e 3]
  rcases stream4 h with h | h | h | h <;> simp [h, hl]
theorem cnts_setb {z : Nat} (hz : 1 ≤ z) {tsn : Int} {f g : List Data} {s : Say} (h1 : 1 ≤ s.text.length) (h : 0 ≤ s.stream ∧ s.stream < 4) (hl : s.loose = false) : (cnts f g).set (4 + s.stream.toNat) (.i ((ssnIn g s.stream : Int) + 1)) = cnts f (g ++ nextParts z tsn g s) := by
  have e := fun y => ssnIn_next hz tsn g s h1 y
  unfold cnts
  rw [e 0, e 1, e 2, e 3]
  rcases stream4 h with h | h | h | h <;> simp [h, hl]
theorem cnts_loosea {z : Nat} (hz : 1 ≤ z) {tsn : Int} {f g : List Data} {s : Say} (h1 : 1 ≤ s.text.length) (hl : s.loose = true) : cnts (f ++ nextParts z tsn f s) g = cnts f g := by
  have e := fun y => ssnIn_next hz tsn f s h1 y
  unfold cnts
  rw [e 0, e 1, e 2, e 3]; simp [hl]
theorem cnts_looseb {z : Nat} (hz : 1 ≤ z) {tsn : Int} {f g : List Data} {s : Say} (h1 : 1 ≤ s.text.length) (hl : s.loose = true) : cnts f (g ++ nextParts z tsn g s) = cnts f g := by
  have e := fun y => ssnIn_next hz tsn g s h1 y
  unfold cnts
  rw [e 0, e 1, e 2, e 3]; simp [hl]
/-- The row of a part, as the loops reckon it. -/
theorem part_row {z : Nat} (hz : 1 ≤ z) (f : Int) (k : Nat) (ssn : Int) (s : Say) (j : Nat) (E : Int) (hE : E = min (s.text.length : Int) (((j + 1) * z : Nat) : Int)) :
    (part z (l3 f k) ssn s j).row = [.n .i64 (l3 f ((k + j : Nat) : Int)), .n .i64 s.stream, .n .i64 ssn, .b (((j * z : Nat) : Int) == 0), .b (E == s.text.length), .b s.loose, .s ((s.text.take E.toNat).drop ((j * z : Nat) : Int).toNat)] := by
  simp only [part, Data.row, l3_l3]
  have k1 : (decide (j = 0)) = (((j * z : Nat) : Int) == 0) := by
    rw [Bool.eq_iff_iff]; simp only [decide_eq_true_eq, beq_iff_eq]
    constructor
    · rintro rfl; simp
    · intro h
      have : j * z = 0 := by omega
      rcases Nat.mul_eq_zero.1 this with h | h <;> omega
  have k2 : (decide (s.text.length ≤ (j + 1) * z)) = (E == s.text.length) := by
    rw [Bool.eq_iff_iff]; simp only [decide_eq_true_eq, beq_iff_eq]; omega
  have k3 : s.text.take ((j + 1) * z) = s.text.take E.toNat := by
    rcases Nat.lt_or_ge s.text.length ((j + 1) * z) with h | h
    · have : E.toNat = s.text.length := by omega
      rw [this, List.take_of_length_le (by omega), List.take_of_length_le (by omega)]
    · have : E.toNat = (j + 1) * z := by omega
      rw [this]
  rw [k1, k2, k3, Int.toNat_natCast, show ((k : Int) + (j : Int)) = ((k + j : Nat) : Int) by omega]
end Go.Cap

/- Contracts: the program's parts. -/
namespace Go.Cap
open Go Go.Proofs
set_option maxRecDepth 100000
set_option linter.unusedSimpArgs false
set_option linter.unusedVariables false
attribute [local irreducible] Call Run Spec Le

@[go_sem] theorem cnts_len (f g : List Data) : (cnts f g).length = 8 := (rfl)
/-- The inner loop: the parts of one message. -/
theorem loop_partsOf0 {c : Cx} (hP : c.P = Try.prog) (hm : c.m = 0) (t : Talk) (z : Nat) (hz : t.size = z) (hz1 : 1 ≤ z ∧ z ≤ 20) (s : Say) (q1 : 1 ≤ s.text.length) (q2 : s.text.length ≤ 60) (i nout : Nat) (hi : i ≤ 4) (f0 : Int) (hf0 : 0 ≤ f0 ∧ f0 < 65536) (fl : List Data) (hfl : fl.length ≤ 1000)
    (side : Nat) (hside : side < 2) (ts : Int → List RV) (hts : ∀ v, (ts v).length = 2 ∧ aget ((ts v).map .r) side = .i v ∧ (∀ u, ((ts v).map AV.r).set side (.i u) = (ts u).map .r)) (nx3 : List RV) (out : List (List RV)) {n r : St → Prop} {x : Nat → St → Prop}
    (hx : x 2 ⟨[(1, .ptr 0 0 0), (3, .sl 1 0 nout), (4, .ptr 2 0 0), (5, .ptr 3 0 0), (10, .r (.ro none ((nextParts z f0 fl s).map (tpRow s.byB)))), (23, .r (.ro none (t.says.map Say.row))), (24, .i t.says.length), (25, .i i)],
      [(3, .var (nx3.map .r)), (2, .var ((ts (l3 f0 ((fl.length + (nextParts z f0 fl s).length : Nat) : Int))).map .r)), (1, .row 1 out), (0, .var [.i t.fr, .i t.to, .i t.a.tag, .i t.a.window, .i t.a.streams, .i t.a.tsn, .i t.b.tag, .i t.b.window, .i t.b.streams, .i t.b.tsn, .i t.size, .r (.ro none (t.says.map Say.row))])], 4, []⟩) :
    Run c (.lp pc87l0) ⟨[(1, .ptr 0 0 0), (3, .sl 1 0 nout), (4, .ptr 2 0 0), (5, .ptr 3 0 0), (7, .ptr 4 0 0), (8, .i side), (9, .i (ssnOf fl s)), (10, .sl 5 0 0), (11, .i 0), (23, .r (.ro none (t.says.map Say.row))), (24, .i t.says.length), (25, .i i)],
      [(5, .row 8 []), (4, .var [.bo s.byB, .i s.stream, .bo s.loose, .st s.text]), (3, .var (nx3.map .r)), (2, .var ((ts (l3 f0 (fl.length : Int))).map .r)), (1, .row 1 out), (0, .var [.i t.fr, .i t.to, .i t.a.tag, .i t.a.window, .i t.a.streams, .i t.a.tsn, .i t.b.tag, .i t.b.window, .i t.b.streams, .i t.b.tsn, .i t.size, .r (.ro none (t.says.map Say.row))])], 6, []⟩ n x r := by
  have hml := many_le2 (n := s.text.length) hz1.1
  have hnl : (nextParts z f0 fl s).length = manyN s.text.length z := nextParts_len _ _ _ _
  refine run_exit 2 (fun t0 => t0 = ⟨[(1, .ptr 0 0 0), (3, .sl 1 0 nout), (4, .ptr 2 0 0), (5, .ptr 3 0 0), (10, .r (.ro none ((nextParts z f0 fl s).map (tpRow s.byB)))), (23, .r (.ro none (t.says.map Say.row))), (24, .i t.says.length), (25, .i i)],
      [(3, .var (nx3.map .r)), (2, .var ((ts (l3 f0 ((fl.length + (nextParts z f0 fl s).length : Nat) : Int))).map .r)), (1, .row 1 out), (0, .var [.i t.fr, .i t.to, .i t.a.tag, .i t.a.window, .i t.a.streams, .i t.a.tsn, .i t.b.tag, .i t.b.window, .i t.b.streams, .i t.b.tsn, .i t.size, .r (.ro none (t.says.map Say.row))])], 4, []⟩) ?_ (fun t0 h => by rw [h]; exact hx)
  refine lp_wpc (α := Nat) (fun j => ⟨[(1, .ptr 0 0 0), (3, .sl 1 0 nout), (4, .ptr 2 0 0), (5, .ptr 3 0 0), (7, .ptr 4 0 0), (8, .i side), (9, .i (ssnOf fl s)), (10, .sl 5 0 j), (11, .i (j * z : Nat)), (23, .r (.ro none (t.says.map Say.row))), (24, .i t.says.length), (25, .i i)],
      [(5, .row 8 (((nextParts z f0 fl s).take j).map (tpRow s.byB))), (4, .var [.bo s.byB, .i s.stream, .bo s.loose, .st s.text]), (3, .var (nx3.map .r)), (2, .var ((ts (l3 f0 ((fl.length + j : Nat) : Int))).map .r)), (1, .row 1 out), (0, .var [.i t.fr, .i t.to, .i t.a.tag, .i t.a.window, .i t.a.streams, .i t.a.tsn, .i t.b.tag, .i t.b.window, .i t.b.streams, .i t.b.tsn, .i t.size, .r (.ro none (t.says.map Say.row))])], 6, []⟩)
    (fun j => j ≤ manyN s.text.length z) (fun j => manyN s.text.length z - j) 0 (Nat.zero_le _) (le_eq (by simp)) ?_
  intro j hj
  obtain ⟨t1, t2, t3⟩ := hts (l3 f0 ((fl.length + j : Nat) : Int))
  unfold pc87l0
  simp only [t1, t2, go_sem, ↓reduceIte, Int.toNat_natCast]
  refine ⟨fun hlt2 => ?_, fun hge2 => ?_⟩
  · have hjm : j < manyN s.text.length z := (many_lt hz1.1).2 (by omega)
    have hadd : (j + 1) * z = j * z + z := by rw [Nat.add_mul, Nat.one_mul]
    have e1 : IntKind.i64.wrap (((j * z : Nat) : Int) + t.size) = (((j + 1) * z : Nat) : Int) := by rw [wrap64 (by omega) (by omega)]; omega
    rw [e1]
    generalize hE : (if (s.text.length : Int) < (((j + 1) * z : Nat) : Int) then (s.text.length : Int) else (((j + 1) * z : Nat) : Int)) = E
    have hE1 : E = min (s.text.length : Int) (((j + 1) * z : Nat) : Int) := by rw [← hE]; split <;> omega
    have hpart := part_row hz1.1 f0 fl.length (ssnOf fl s) s j E hE1
    simp only [Int.toNat_natCast] at hpart
    have hlk : ((nextParts z f0 fl s).take j).length = j := by rw [List.length_take, hnl]; omega
    have hstep : ((nextParts z f0 fl s).take j).map (tpRow s.byB) ++ [.b s.byB :: (part z (l3 f0 fl.length) (ssnOf fl s) s j).row] = ((nextParts z f0 fl s).take (j + 1)).map (tpRow s.byB) := by
      rw [show (nextParts z f0 fl s).take (j + 1) = (nextParts z f0 fl s).take j ++ [part z (l3 f0 fl.length) (ssnOf fl s) s j] from take_chunks hjm]
      simp [tpRow]
    rw [hpart] at hstep
    have htk2 : List.take j (((nextParts z f0 fl s).take j).map (tpRow s.byB)) = ((nextParts z f0 fl s).take j).map (tpRow s.byB) := List.take_of_length_le (by rw [List.length_map, hlk]; omega)
    simp only [hm, t1, t2, go_sem, ↓reduceIte]
    refine ⟨⟨by omega, by omega⟩, by omega, ⟨by omega, by omega, by omega⟩, ⟨by rw [hlk]; omega, by omega⟩, ⟨by omega, by omega⟩, by omega, ?_⟩
    refine call_pure (hP ▸ s_SerialAdd (l3 f0 ((fl.length + j : Nat) : Int)) 1) rfl rfl ?_
    rw [serial_l3, if_pos rfl, l3_l3, htk2, hstep]
    simp only [hm, t1, t2, t3, go_sem, ↓reduceIte, Int.toNat_natCast]
    rw [e1]
    refine ⟨⟨by omega, by omega⟩, by omega, j + 1, hjm, by omega, le_ev [] ?_⟩
    simp only [hm, go_sem, ↓reduceIte]
    rfl
  · have hjm : j = manyN s.text.length z := by
      rcases Nat.lt_or_ge j (manyN s.text.length z) with h | h
      · have := (many_lt hz1.1).1 h; omega
      · omega
    have htk : (nextParts z f0 fl s).take j = nextParts z f0 fl s := List.take_of_length_le (by rw [hnl]; omega)
    rw [htk]
    refine ⟨_, rfl, Le.trans (le_frz 5 rfl ?_ ?_) (le_ev [] ?_)⟩
    · simp only [hm, go_sem, ↓reduceIte, List.length_map, hnl]
      omega
    · simp only [hm, go_sem, ↓reduceIte]
    · simp only [hm, go_sem, ↓reduceIte]
      exact ⟨by rw [List.take_of_length_le (by rw [List.length_map, hnl]; omega)], by rw [hnl, hjm]⟩

theorem loop_partsOf1 {c : Cx} (hP : c.P = Try.prog) (hm : c.m = 0) (t : Talk) (z : Nat) (hv : talkB t = true) (hz : t.size = z) {n r : St → Prop} {x : Nat → St → Prop}
    (hx : x 0 ⟨[(3, .sl 1 0 (lists z t.a.tsn t.b.tsn t.says [] []).length)], [(1, .row 1 ((lists z t.a.tsn t.b.tsn t.says [] []).map listRow))], 2, []⟩) :
    Run c (.lp pc87l1) ⟨[(1, .ptr 0 0 0), (3, .sl 1 0 0), (4, .ptr 2 0 0), (5, .ptr 3 0 0), (23, .r (.ro none (t.says.map Say.row))), (24, .i t.says.length), (25, .i 0)],
      [(3, .var [.i 0, .i 0, .i 0, .i 0, .i 0, .i 0, .i 0, .i 0]), (2, .var [.i t.a.tsn, .i t.b.tsn]), (1, .row 1 []), (0, .var [.i t.fr, .i t.to, .i t.a.tag, .i t.a.window, .i t.a.streams, .i t.a.tsn, .i t.b.tag, .i t.b.window, .i t.b.streams, .i t.b.tsn, .i t.size, .r (.ro none (t.says.map Say.row))])], 4, []⟩ n x r := by
  obtain ⟨hsz, hlen, hsays, hta, htb, hsa, hsb⟩ := talk_ok hv
  have hz1 : 1 ≤ z ∧ z ≤ 20 := by omega
  refine run_exit 0 (fun t0 => t0 = ⟨[(3, .sl 1 0 (lists z t.a.tsn t.b.tsn t.says [] []).length)], [(1, .row 1 ((lists z t.a.tsn t.b.tsn t.says [] []).map listRow))], 2, []⟩) ?_ (fun t0 h => by rw [h]; exact hx)
  refine lp_wpc (α := Nat × List (Bool × List Data) × List Data × List Data) (fun y => ⟨[(1, .ptr 0 0 0), (3, .sl 1 0 y.2.1.length), (4, .ptr 2 0 0), (5, .ptr 3 0 0), (23, .r (.ro none (t.says.map Say.row))), (24, .i t.says.length), (25, .i y.1)],
      [(3, .var (cnts y.2.2.1 y.2.2.2)), (2, .var [.i (l3 t.a.tsn (y.2.2.1.length : Int)), .i (l3 t.b.tsn (y.2.2.2.length : Int))]), (1, .row 1 (y.2.1.map listRow)), (0, .var [.i t.fr, .i t.to, .i t.a.tag, .i t.a.window, .i t.a.streams, .i t.a.tsn, .i t.b.tag, .i t.b.window, .i t.b.streams, .i t.b.tsn, .i t.size, .r (.ro none (t.says.map Say.row))])], 4, []⟩)
    (fun y => y.1 ≤ t.says.length ∧ y.2.1.length = y.1 ∧ y.2.2.1.length ≤ 60 * y.1 ∧ y.2.2.2.length ≤ 60 * y.1 ∧ y.2.1 ++ lists z t.a.tsn t.b.tsn (t.says.drop y.1) y.2.2.1 y.2.2.2 = lists z t.a.tsn t.b.tsn t.says [] []) (fun y => t.says.length - y.1) (0, [], [], [])
    ⟨Nat.zero_le _, rfl, Nat.zero_le _, Nat.zero_le _, rfl⟩ (le_eq (by simp [cnts, ssnIn, l3_zero hta, l3_zero htb])) ?_
  rintro ⟨i, acc, f, g⟩ ⟨hi, ha, hf, hg, hI⟩
  simp only at hi ha hf hg hI
  unfold pc87l1
  simp only [go_sem, ↓reduceIte]
  refine ⟨fun hlt => ?_, fun hge => ?_⟩
  · have hil : i < t.says.length := by omega
    rw [lists_drop hil] at hI
    obtain ⟨q1, q2, q3, q4⟩ := hsays _ (List.getElem_mem hil)
    simp only [Int.toNat_natCast, getD_map hil, Say.row, go_sem, ↓reduceIte]
    generalize t.says[i] = s at hI q1 q2 q3 q4
    have hml := many_le2 (n := s.text.length) hz1.1
    refine ⟨⟨by omega, by omega⟩, ?_⟩
    obtain ⟨byB, stream, loose, text⟩ := s
    simp only at hI q1 q2 q3 q4 hml
    cases byB
    · simp only [Bool.false_eq_true, if_false, if_true] at hI q4
      have h4 : 0 ≤ stream ∧ stream < 4 := by omega
      cases loose
      · simp only [cnts_a h4, go_sem, ↓reduceIte]
        have hle := ssnIn_le f stream
        rw [wrap64 (x := (ssnIn f stream : Int) + 1) (by omega) (by omega)]
        have hset := cnts_seta (f := f) (g := g) (s := ⟨false, stream, false, text⟩) hz1.1 (tsn := t.a.tsn) q1 h4 rfl
        simp only at hset
        rw [hset, cntsR_map]
        refine ⟨h4, by omega, h4, by omega, h4, by omega, ?_⟩
        refine loop_partsOf0 hP hm t z hz hz1 ⟨false, stream, false, text⟩ q1 q2 i acc.length (by omega) t.a.tsn hta f (by omega) 0 (by decide) (fun v => [.n .i64 v, .n .i64 (l3 t.b.tsn (g.length : Int))]) (fun v => ⟨rfl, rfl, fun u => rfl⟩) _ _ ?_
        rw [← cntsR_map]
        simp only [hm, go_sem, ↓reduceIte]
        have hrow : List.take acc.length (acc.map listRow) ++ [[.ro none ((nextParts z t.a.tsn f ⟨false, stream, false, text⟩).map (tpRow false))]] = (acc ++ [(false, nextParts z t.a.tsn f ⟨false, stream, false, text⟩)]).map listRow := by
          rw [List.take_of_length_le (by simp)]; simp [listRow]
        rw [hrow, wrap64 (x := (i : Int) + 1) (by omega) (by omega)]
        refine ⟨by omega, (i + 1, acc ++ [(false, nextParts z t.a.tsn f ⟨false, stream, false, text⟩)], (f ++ nextParts z t.a.tsn f ⟨false, stream, false, text⟩), g), ⟨hil, by simp only; rw [List.length_append]; simp; omega, by simp only; rw [List.length_append, nextParts_len]; simp only; omega, by simp only; omega, by simp only; rw [List.append_assoc]; exact hI⟩, by simp only; omega, le_ev [] ?_⟩
        simp only [cntsR_map, hm, go_sem, ↓reduceIte, Nat.reduceLeDiff]
        rfl
      · simp only [go_sem, ↓reduceIte]
        rw [← cnts_loosea (f := f) (g := g) (s := ⟨false, stream, true, text⟩) hz1.1 (tsn := t.a.tsn) q1 rfl, cntsR_map]
        refine loop_partsOf0 hP hm t z hz hz1 ⟨false, stream, true, text⟩ q1 q2 i acc.length (by omega) t.a.tsn hta f (by omega) 0 (by decide) (fun v => [.n .i64 v, .n .i64 (l3 t.b.tsn (g.length : Int))]) (fun v => ⟨rfl, rfl, fun u => rfl⟩) _ _ ?_
        rw [← cntsR_map]
        simp only [hm, go_sem, ↓reduceIte]
        have hrow : List.take acc.length (acc.map listRow) ++ [[.ro none ((nextParts z t.a.tsn f ⟨false, stream, true, text⟩).map (tpRow false))]] = (acc ++ [(false, nextParts z t.a.tsn f ⟨false, stream, true, text⟩)]).map listRow := by
          rw [List.take_of_length_le (by simp)]; simp [listRow]
        rw [hrow, wrap64 (x := (i : Int) + 1) (by omega) (by omega)]
        refine ⟨by omega, (i + 1, acc ++ [(false, nextParts z t.a.tsn f ⟨false, stream, true, text⟩)], (f ++ nextParts z t.a.tsn f ⟨false, stream, true, text⟩), g), ⟨hil, by simp only; rw [List.length_append]; simp; omega, by simp only; rw [List.length_append, nextParts_len]; simp only; omega, by simp only; omega, by simp only; rw [List.append_assoc]; exact hI⟩, by simp only; omega, le_ev [] ?_⟩
        simp only [cntsR_map, hm, go_sem, ↓reduceIte, Nat.reduceLeDiff]
        rfl
    · simp only [Bool.false_eq_true, if_false, if_true] at hI q4
      have h4 : 0 ≤ stream ∧ stream < 4 := by omega
      cases loose
      · simp only [cnts_b h4, go_sem, ↓reduceIte]
        have hle := ssnIn_le g stream
        rw [wrap64 (x := (ssnIn g stream : Int) + 1) (by omega) (by omega)]
        have hset := cnts_setb (f := f) (g := g) (s := ⟨true, stream, false, text⟩) hz1.1 (tsn := t.b.tsn) q1 h4 rfl
        simp only at hset
        rw [hset, cntsR_map]
        refine ⟨h4, by omega, h4, by omega, h4, by omega, ?_⟩
        refine loop_partsOf0 hP hm t z hz hz1 ⟨true, stream, false, text⟩ q1 q2 i acc.length (by omega) t.b.tsn htb g (by omega) 1 (by decide) (fun v => [.n .i64 (l3 t.a.tsn (f.length : Int)), .n .i64 v]) (fun v => ⟨rfl, rfl, fun u => rfl⟩) _ _ ?_
        rw [← cntsR_map]
        simp only [hm, go_sem, ↓reduceIte]
        have hrow : List.take acc.length (acc.map listRow) ++ [[.ro none ((nextParts z t.b.tsn g ⟨true, stream, false, text⟩).map (tpRow true))]] = (acc ++ [(true, nextParts z t.b.tsn g ⟨true, stream, false, text⟩)]).map listRow := by
          rw [List.take_of_length_le (by simp)]; simp [listRow]
        rw [hrow, wrap64 (x := (i : Int) + 1) (by omega) (by omega)]
        refine ⟨by omega, (i + 1, acc ++ [(true, nextParts z t.b.tsn g ⟨true, stream, false, text⟩)], f, (g ++ nextParts z t.b.tsn g ⟨true, stream, false, text⟩)), ⟨hil, by simp only; rw [List.length_append]; simp; omega, by simp only; omega, by simp only; rw [List.length_append, nextParts_len]; simp only; omega, by simp only; rw [List.append_assoc]; exact hI⟩, by simp only; omega, le_ev [] ?_⟩
        simp only [cntsR_map, hm, go_sem, ↓reduceIte, Nat.reduceLeDiff]
        rfl
      · simp only [go_sem, ↓reduceIte]
        rw [← cnts_looseb (f := f) (g := g) (s := ⟨true, stream, true, text⟩) hz1.1 (tsn := t.b.tsn) q1 rfl, cntsR_map]
        refine loop_partsOf0 hP hm t z hz hz1 ⟨true, stream, true, text⟩ q1 q2 i acc.length (by omega) t.b.tsn htb g (by omega) 1 (by decide) (fun v => [.n .i64 (l3 t.a.tsn (f.length : Int)), .n .i64 v]) (fun v => ⟨rfl, rfl, fun u => rfl⟩) _ _ ?_
        rw [← cntsR_map]
        simp only [hm, go_sem, ↓reduceIte]
        have hrow : List.take acc.length (acc.map listRow) ++ [[.ro none ((nextParts z t.b.tsn g ⟨true, stream, true, text⟩).map (tpRow true))]] = (acc ++ [(true, nextParts z t.b.tsn g ⟨true, stream, true, text⟩)]).map listRow := by
          rw [List.take_of_length_le (by simp)]; simp [listRow]
        rw [hrow, wrap64 (x := (i : Int) + 1) (by omega) (by omega)]
        refine ⟨by omega, (i + 1, acc ++ [(true, nextParts z t.b.tsn g ⟨true, stream, true, text⟩)], f, (g ++ nextParts z t.b.tsn g ⟨true, stream, true, text⟩)), ⟨hil, by simp only; rw [List.length_append]; simp; omega, by simp only; omega, by simp only; rw [List.length_append, nextParts_len]; simp only; omega, by simp only; rw [List.append_assoc]; exact hI⟩, by simp only; omega, le_ev [] ?_⟩
        simp only [cntsR_map, hm, go_sem, ↓reduceIte, Nat.reduceLeDiff]
        rfl
  · have : i = t.says.length := by omega
    subst this
    rw [List.drop_eq_nil_of_le (Nat.le_refl _)] at hI
    simp only [lists, List.append_nil] at hI
    rw [← hI]
    exact ⟨_, rfl, le_ev [] (by simp only [hm, go_sem, ↓reduceIte, Nat.reduceLeDiff])⟩
def talkLists (t : Talk) : List (Bool × List Data) := lists t.size.toNat t.a.tsn t.b.tsn t.says [] []
theorem s_partsOf (t : Talk) (hv : talkB t = true) : Spec Try.prog 87 0 [] [t.ro] (New1 (.sl 0 0 (talkLists t).length) 1 ((talkLists t).map listRow)) := by
  refine Spec.new1 (Q := fun r hp _ _ => r = .sl 1 0 (talkLists t).length ∧ hget hp 1 = some (.row 1 ((talkLists t).map listRow))) ?_ (fun r hp nx gs h => ⟨1, h.1, h.2⟩) (fun f g h => by simp only [go_sem, h])
  obtain ⟨hsz, hlen, hsays, hta, htb, _, _⟩ := talk_ok hv
  have hz : t.size = (t.size.toNat : Int) := by omega
  refine mk87 rfl fun c hP hm => ?_
  unfold pc87 Talk.ro Talk.av talkLists
  simp only [go_sem, ↓reduceIte]
  intro _
  refine loop_partsOf1 hP hm t _ hv hz ?_
  simp only [hm, go_sem, ↓reduceIte]
end Go.Cap

/- Contracts: the reader of a code, and small draws. -/
namespace Go.Cap
open Go Go.Proofs
set_option maxRecDepth 100000
set_option linter.unusedSimpArgs false
set_option linter.unusedVariables false
attribute [local irreducible] Call Run Spec Le

def byteRow (b : UInt8) : List RV := [.n .u8 b.toNat]
def rdB (code : List UInt8) (p : Int) : Blk := .var [.r (.ro none (code.map byteRow)), .i p]

@[go_sem] theorem renB_rd (f : Nat → Nat) (code : List UInt8) (p : Int) : renB f (rdB code p) = rdB code p := (rfl)
@[go_sem] theorem killH_rd (b j : Nat) (code : List UInt8) (p : Int) (l : List (Nat × Blk)) : killH b ((j, rdB code p) :: l) = (j, rdB code p) :: killH b l := (rfl)

end Go.Cap

/- Contracts: the laws' helpers on parts. -/
namespace Go.Cap
open Go Go.Proofs
set_option maxRecDepth 100000
set_option linter.unusedSimpArgs false
set_option linter.unusedVariables false
attribute [local irreducible] Call Run Spec Le

theorem mid_get {α : Type} {A B : List α} {d x : α} {i : Nat} (h : A.length = i) : (A ++ x :: B).getD i d = x := by
  rw [List.getD_eq_getElem?_getD, List.getElem?_append_right (by omega), h, Nat.sub_self]; rfl
theorem mid_set {α : Type} {A B : List α} {x y : α} {i : Nat} (h : A.length = i) : (A ++ x :: B).set i y = A ++ y :: B := by
  rw [List.set_append_right _ _ (by omega), h, Nat.sub_self]; rfl
theorem mid_len {α : Type} (A B : List α) (x : α) : (A ++ x :: B).length = A.length + (B.length + 1) := by simp
theorem mid_drop {α : Type} {f : α → List RV} {l : List α} {i : Nat} (h : i < l.length) : (l.drop i).map f = f l[i] :: (l.drop (i + 1)).map f := by rw [List.drop_eq_getElem_cons h]; rfl
end Go.Cap

/- What a side said: the plain law, and the contracts of TalkSaid. -/
namespace Go.Cap
open Go Go.Proofs
set_option maxRecDepth 100000
set_option linter.unusedSimpArgs false
set_option linter.unusedVariables false
attribute [local irreducible] Call Run Spec Le

structure Msg where
  stream : Int
  ssn : Int
  loose : Bool
  text : List UInt8
def Msg.row (d : Msg) : List RV := [.n .i64 d.stream, .n .i64 d.ssn, .b d.loose, .s d.text]
def Msg.av (d : Msg) : AV := .agg [.i d.stream, .i d.ssn, .bo d.loose, .st d.text]
/-- The messages that parts make up, and the text that is still open. -/
def saidStep (x : List Msg × List UInt8) (d : Data) : List Msg × List UInt8 :=
  if d.last then (x.1 ++ [⟨d.stream, d.ssn, d.loose, x.2 ++ d.text⟩], []) else (x.1, x.2 ++ d.text)
def saidSt (l : List Data) : List Msg × List UInt8 := l.foldl saidStep ([], [])
def said (l : List Data) : List Msg := (saidSt l).1
theorem saidSt_app (a b : List Data) : saidSt (a ++ b) = b.foldl saidStep (saidSt a) := by unfold saidSt; rw [List.foldl_append]
end Go.Cap

/- Contracts: a valid part, and which part may follow. -/
namespace Go.Cap
open Go Go.Proofs
set_option maxRecDepth 100000
set_option linter.unusedSimpArgs false
set_option linter.unusedVariables false
attribute [local irreducible] Call Run Spec Le

def dataB (d : Data) : Bool := serialB d.tsn && serialB d.stream && serialB d.ssn && decide (1 ≤ d.text.length ∧ d.text.length ≤ 20)
def likeB (a b : Data) : Bool := a.stream == b.stream && a.ssn == b.ssn && a.loose == b.loose
theorem s_dataOk (d : Data) (h : d.text.length ≤ 9223372036854775807) : Spec Try.prog 110 0 [] [d.av] (fun r _ _ _ => r = .bo (dataB d)) := by
  refine mk110 rfl fun c hP hm => ?_
  unfold pc110 Data.av
  simp only [go_sem, ↓reduceIte]
  repeat' first | refine And.intro ?_ ?_ | intro _ | (refine c_serialOk hP ?_; simp only [go_sem, ↓reduceIte])
  all_goals (apply bo_inj; rw [Bool.eq_iff_iff]; simp [dataB, *] <;> omega)
theorem s_l12Data (d : Data) (h : d.text.length ≤ 9223372036854775807) : Spec Try.prog 140 0 [] [d.av] (fun r _ _ _ => r = .bo (dataB d)) := by
  refine mk140 rfl fun c hP hm => ?_
  unfold pc140 Data.av
  simp only [go_sem, ↓reduceIte]
  repeat' first | refine And.intro ?_ ?_ | intro _ | (refine c_l6In hP ?_; simp only [go_sem, ↓reduceIte]) | (refine c_l3Ok hP ?_; simp only [go_sem, ↓reduceIte])
  all_goals (apply bo_inj; rw [Bool.eq_iff_iff]; simp [dataB, inB, *] <;> omega)
/-- Which part may follow others. -/
def mayB (l : List Data) (d : Data) : Bool := match l.getLast? with
  | some x => if x.last then d.first && (d.loose || d.ssn == ssnIn l d.stream) else !d.first && likeB d x
  | none => d.first && (d.loose || d.ssn == ssnIn l d.stream)
end Go.Cap

/- Contracts: a valid side, and what it said. -/
namespace Go.Cap
open Go Go.Proofs
set_option maxRecDepth 100000
set_option linter.unusedSimpArgs false
set_option linter.unusedVariables false
attribute [local irreducible] Call Run Spec Le

structure Side where
  tag : Int
  streams : Int
  first : Int
  sent : List Data
  acked : Int
def Side.av (s : Side) (x : AV) : AV := .agg [.i s.tag, .i s.streams, .i s.first, x, .i s.acked]
def Side.ro (s : Side) : AV := s.av (.r (.ro none (s.sent.map Data.row)))
end Go.Cap

/- Contracts: TalkSaid of the program and of the reference. -/
namespace Go.Cap
open Go Go.Proofs
set_option maxRecDepth 100000
set_option linter.unusedSimpArgs false
set_option linter.unusedVariables false
attribute [local irreducible] Call Run Spec Le

def cntR (f : List Data) : List RV := [.n .i64 (ssnIn f 0), .n .i64 (ssnIn f 1), .n .i64 (ssnIn f 2), .n .i64 (ssnIn f 3)]
@[go_sem] theorem cnt_len (f : List Data) : (cnt f).length = 4 := (rfl)
@[go_sem] theorem cntR_len (f : List Data) : (cntR f).length = 4 := (rfl)
end Go.Cap

/- Plain facts on the parts of a talk. -/
namespace Go.Cap
open Go Go.Proofs
set_option linter.unusedSimpArgs false
set_option linter.unusedVariables false

/-- The number of parts, as the loop of TalkValid counts them. -/
theorem manyOf_eq {t : Talk} {s : Say} (hz : 1 ≤ t.size) : manyOf t s = (manyN s.text.length t.size.toNat : Int) := by
  unfold manyOf manyN
  have e : t.size = (t.size.toNat : Int) := by omega
  rw [e]
  simp only [Int.toNat_natCast]
  rw [Int.natCast_ediv]
  congr 1
  omega
theorem talkLoop_count {t : Talk} (hz : 1 ≤ t.size) (byB : Bool) (f : Int) : ∀ (l : List Say) (a b : Int) (out : List Data), talkLoop t l a b = true → (out.length : Int) = (if byB then b else a) → (partsAcc t.size.toNat f byB l out).length ≤ 12
  | [], a, b, out, h, e => by
    simp only [talkLoop, Bool.and_eq_true, decide_eq_true_eq] at h
    simp only [partsAcc]
    cases byB <;> simp at e <;> omega
  | s :: l, a, b, out, h, e => by
    simp only [talkLoop, Bool.and_eq_true] at h
    have hm := manyOf_eq (s := s) hz
    simp only [partsAcc]
    cases hs : s.byB <;> rw [hs] at h <;> simp only [if_true, if_false, Bool.false_eq_true] at h <;> refine talkLoop_count hz byB f l _ _ _ h.2 ?_ <;> cases byB <;> simp only [if_true, if_false, Bool.false_eq_true, reduceCtorEq, List.length_append, nextParts_len] at e ⊢ <;> omega
theorem talkParts_12 (t : Talk) (byB : Bool) (hv : talkB t = true) : (talkParts t byB).length ≤ 12 := by
  obtain ⟨hsz, _⟩ := talk_ok hv
  unfold talkParts
  rw [if_pos hv]
  simp only [talkB, Bool.and_eq_true] at hv
  exact talkLoop_count hsz.1 byB _ _ 0 0 [] hv.2 (by cases byB <;> rfl)
end Go.Cap

/- The parts of a talk are those of a valid side. -/
namespace Go.Cap
open Go Go.Proofs
set_option maxRecDepth 100000
set_option linter.unusedSimpArgs false
set_option linter.unusedVariables false
attribute [local irreducible] Call Run Spec Le

theorem mayB_first {f : List Data} {d : Data} (hl : ∀ x, f.getLast? = some x → x.last = true) (hd : d.first = true) (hs : d.loose = true ∨ d.ssn = ssnIn f d.stream) : mayB f d = true := by
  unfold mayB
  cases h : f.getLast? with
  | none => simp [hd]; rcases hs with hs | hs <;> simp [hs]
  | some x =>
    have := hl x h
    simp only [this, if_true]
    simp [hd]; rcases hs with hs | hs <;> simp [hs]
theorem mayB_next {f : List Data} {x d : Data} (hl : f.getLast? = some x) (hx : x.last = false) (hd : d.first = false) (hk : likeB d x = true) : mayB f d = true := by
  unfold mayB
  rw [hl]
  simp [hx, hd, hk]
/-- Every part may follow the ones ahead of it. -/
structure Fit (f : Int) (streams : Int) (out : List Data) : Prop where
  ok : ∀ i (hi : i < out.length), dataB out[i] = true ∧ out[i].tsn = l3 f i ∧ out[i].stream < streams ∧ mayB (out.take i) out[i] = true
  last : ∀ x, out.getLast? = some x → x.last = true
theorem Fit.next {z : Nat} (hz : 1 ≤ z ∧ z ≤ 20) {f streams : Int} {out : List Data} (h : Fit f streams out) (ho : out.length ≤ 60000) {s : Say} (h1 : 1 ≤ s.text.length) (hs : 0 ≤ s.stream ∧ s.stream < streams) (hs4 : streams ≤ 4) : Fit f streams (out ++ nextParts z f out s) := by
  have hnl : (nextParts z f out s).length = manyN s.text.length z := nextParts_len ..
  refine ⟨fun i hi => ?_, fun x hx => ?_⟩
  · rcases Nat.lt_or_ge i out.length with hio | hio
    · rw [List.getElem_append_left hio, List.take_append_of_le_length (by omega)]
      exact h.ok i hio
    · obtain ⟨j, rfl⟩ : ∃ j, i = out.length + j := ⟨i - out.length, by omega⟩
      have hj : j < manyN s.text.length z := by rw [List.length_append, hnl] at hi; omega
      have hget : (out ++ nextParts z f out s)[out.length + j] = part z (l3 f out.length) (ssnOf out s) s j := by
        have h2 : (out ++ nextParts z f out s)[out.length + j]? = some (part z (l3 f out.length) (ssnOf out s) s j) := by
          rw [List.getElem?_append_right (by omega), Nat.add_sub_cancel_left]; exact chunks_get hj
        rw [List.getElem?_eq_getElem hi] at h2
        exact Option.some.inj h2
      have htake : (out ++ nextParts z f out s).take (out.length + j) = out ++ (nextParts z f out s).take j := by
        rw [List.take_append, List.take_of_length_le (by omega), Nat.add_sub_cancel_left]
      rw [hget, htake]
      have hlt := (many_lt hz.1).1 hj
      have hadd : (j + 1) * z = j * z + z := by rw [Nat.add_mul, Nat.one_mul]
      have hssn := ssnIn_le out s.stream
      have hrange := l3_range (l3 f out.length) j
      refine ⟨?_, ?_, hs.2, ?_⟩
      · have k1 : serialB (l3 (l3 f out.length) j) = true := serial_l3 _ _
        have k2 : serialB s.stream = true := by simp only [serialB, decide_eq_true_eq]; omega
        have k3 : serialB (ssnOf out s) = true := by unfold ssnOf; simp only [serialB, decide_eq_true_eq]; split <;> omega
        have k4 : 1 ≤ (part z (l3 f out.length) (ssnOf out s) s j).text.length ∧ (part z (l3 f out.length) (ssnOf out s) s j).text.length ≤ 20 := by
          simp only [part, List.length_drop, List.length_take]; omega
        unfold dataB
        rw [decide_eq_true k4]
        show (serialB (l3 (l3 f out.length) j) && serialB s.stream && serialB (ssnOf out s) && true) = true
        rw [k1, k2, k3]; rfl
      · simp only [part, l3_l3]; congr 1
      · cases j with
        | zero =>
          rw [List.take_zero, List.append_nil]
          refine mayB_first h.last (by simp [part]) ?_
          simp only [part, ssnOf]
          cases s.loose <;> simp
        | succ j =>
          have hj' : j < manyN s.text.length z := by omega
          refine mayB_next (x := part z (l3 f out.length) (ssnOf out s) s j) ?_ ?_ (by simp [part]) (by simp [likeB, part])
          · rw [show (nextParts z f out s).take (j + 1) = (nextParts z f out s).take j ++ [part z (l3 f out.length) (ssnOf out s) s j] from take_chunks hj', ← List.append_assoc]
            exact List.getLast?_concat
          · simp only [part, decide_eq_false_iff_not]; omega
  · have hm : 0 < manyN s.text.length z := (many_lt hz.1).2 (by omega)
    obtain ⟨m, hmm⟩ : ∃ m, manyN s.text.length z = m + 1 := ⟨manyN s.text.length z - 1, by omega⟩
    have hn : ¬ (m + 1) * z < s.text.length := fun h => by have := (many_lt hz.1).2 h; omega
    unfold nextParts chunks at hx
    rw [hmm, List.range_succ, List.map_append, ← List.append_assoc, List.map_cons, List.map_nil, List.getLast?_concat] at hx
    cases hx
    simp only [part, decide_eq_true_eq]; omega
theorem fit_parts {z : Nat} (hz : 1 ≤ z ∧ z ≤ 20) {f streams : Int} (hs4 : streams ≤ 4) {byB : Bool} : ∀ (l : List Say) (out : List Data), (∀ s ∈ l, s.byB = byB → 1 ≤ s.text.length ∧ s.text.length ≤ 60 ∧ 0 ≤ s.stream ∧ s.stream < streams) → out.length + 60 * l.length ≤ 60000 → Fit f streams out → Fit f streams (partsAcc z f byB l out)
  | [], out, _, _, h => h
  | s :: l, out, hl, hb, h => by
    have hl' : ∀ x ∈ l, x.byB = byB → 1 ≤ x.text.length ∧ x.text.length ≤ 60 ∧ 0 ≤ x.stream ∧ x.stream < streams := fun x hx => hl x (List.mem_cons_of_mem _ hx)
    rw [List.length_cons] at hb
    simp only [partsAcc]
    split
    · rename_i hbb
      obtain ⟨q1, q2, q3, q4⟩ := hl s (List.mem_cons_self ..) hbb
      have ml := many_le2 (n := s.text.length) hz.1
      exact fit_parts hz hs4 l _ hl' (by rw [List.length_append, nextParts_len]; omega) (h.next hz (by omega) q1 ⟨q3, q4⟩ hs4)
    · exact fit_parts hz hs4 l _ hl' (by omega) h
def Talk.init (t : Talk) (byB : Bool) : Init := if byB then t.b else t.a
theorem init_ok {t : Talk} (hv : talkB t = true) (byB : Bool) : initB (t.init byB) = true := by
  simp only [talkB, talkHead, Bool.and_eq_true] at hv
  cases byB
  · exact hv.1.1.1.1.2
  · exact hv.1.1.1.2
theorem talk_fit {t : Talk} (hv : talkB t = true) (byB : Bool) : Fit (t.init byB).tsn (t.init byB).streams (talkParts t byB) := by
  obtain ⟨hsz, hlen, hsays, hta, htb, hsa, hsb⟩ := talk_ok hv
  unfold talkParts
  rw [if_pos hv]
  have e : t.tsn byB = (t.init byB).tsn := by cases byB <;> rfl
  rw [e]
  refine fit_parts (by omega) ?_ t.says [] ?_ (by simp only [List.length_nil]; omega) ⟨fun i hi => by simp at hi, fun x hx => by simp at hx⟩
  · cases byB <;> simp [Talk.init] <;> omega
  · intro s hs hb
    have := hsays s hs
    rw [hb] at this
    cases byB <;> simpa [Talk.init] using this
end Go.Cap

/- Plain model: numbers as bytes, sums, chunks, packets, records. -/
namespace Go.Cap
open Go Go.Proofs
set_option linter.unusedSimpArgs false
set_option linter.unusedVariables false

def u8 (x : Int) : UInt8 := UInt8.ofNat x.toNat
def word (n : Int) : List UInt8 := [u8 (n / 256), u8 (n % 256)]
def long (n : Int) : List UInt8 := word (n / 65536) ++ word (n % 65536)
structure Chunk where
  kind : Int
  flags : Int
  body : List UInt8
  deriving Inhabited
def Chunk.row (c : Chunk) : List RV := [.n .i64 c.kind, .n .i64 c.flags, .s c.body]
def Chunk.av (c : Chunk) : AV := .agg [.i c.kind, .i c.flags, .st c.body]
def chunkB (c : Chunk) : Bool := inB c.kind 0 255 && inB c.flags 0 255 && decide (c.body.length ≤ 60)
structure Packet where
  fr : Int
  to : Int
  tag : Int
  chunks : List Chunk
  deriving Inhabited
def Packet.ro (p : Packet) : AV := .agg [.i p.fr, .i p.to, .i p.tag, .r (.ro none (p.chunks.map Chunk.row))]
def Packet.row (p : Packet) : List RV := [.n .i64 p.fr, .n .i64 p.to, .n .i64 p.tag, .ro none (p.chunks.map Chunk.row)]
def packB (p : Packet) : Bool := inB p.fr 1 65535 && inB p.to 1 65535 && decide (p.fr ≠ p.to) && inB p.tag 0 4294967295 && decide (1 ≤ p.chunks.length ∧ p.chunks.length ≤ 4) && p.chunks.all chunkB
def bit (b : Bool) (n : Int) : Int := if b then n else 0
def dataPut (d : Data) : Chunk := ⟨0, bit d.last 1 + bit d.first 2 + bit d.loose 4, word d.tsn ++ word d.stream ++ word d.ssn ++ d.text⟩
def initPut (x : Init) (ans : Bool) : Chunk := ⟨if ans then 2 else 1, 0, long x.tag ++ word x.window ++ word x.streams ++ word x.tsn⟩
structure Gap where
  fr : Int
  to : Int
  deriving Inhabited
def Gap.row (g : Gap) : List RV := [.n .i64 g.fr, .n .i64 g.to]
structure Sack where
  cum : Int
  gaps : List Gap
  deriving Inhabited
def gapsB : Int → List Gap → Bool
  | _, [] => true
  | last, g :: l => decide (last + 2 ≤ g.fr ∧ g.fr ≤ g.to ∧ g.to ≤ 16) && gapsB g.to l
def sackB (s : Sack) : Bool := serialB s.cum && decide (s.gaps.length ≤ 8) && gapsB 0 s.gaps
def sackPut (s : Sack) : Chunk := ⟨3, 0, word s.cum ++ s.gaps.flatMap fun g => word g.fr ++ word g.to⟩
/-- All parts of a talk, in the order in which they are said, with their sides. -/
def talkAll (z : Nat) (ta tb : Int) : List Say → List Data → List Data → List (Bool × Data)
  | [], _, _ => []
  | s :: l, oa, ob => if s.byB then (nextParts z tb ob s).map (fun d => (true, d)) ++ talkAll z ta tb l oa (ob ++ nextParts z tb ob s)
    else (nextParts z ta oa s).map (fun d => (false, d)) ++ talkAll z ta tb l (oa ++ nextParts z ta oa s) ob
def onePk (t : Talk) (byB : Bool) (c : Chunk) : Packet := if byB then ⟨t.to, t.fr, t.a.tag, [c]⟩ else ⟨t.fr, t.to, t.b.tag, [c]⟩
def hello (t : Talk) : List Packet := [⟨t.fr, t.to, 0, [initPut t.a false]⟩, onePk t true (initPut t.b true), onePk t false ⟨10, 0, []⟩, onePk t true ⟨11, 0, []⟩]
def saysPk (t : Talk) (l : List (Bool × Data)) : List Packet := l.flatMap fun x => [onePk t x.1 (dataPut x.2), onePk t (!x.1) (sackPut ⟨x.2.tsn, []⟩)]
def bye (t : Talk) : List Packet := [onePk t false ⟨7, 0, []⟩, onePk t true ⟨8, 0, []⟩, onePk t false ⟨14, 0, []⟩]
def Talk.all (t : Talk) : List (Bool × Data) := talkAll t.size.toNat t.a.tsn t.b.tsn t.says [] []
def talkPk (t : Talk) : List Packet := if talkB t then hello t ++ saysPk t t.all ++ bye t else []
structure Rec where
  time : Int
  text : List UInt8
  deriving Inhabited
def Rec.row (x : Rec) : List RV := [.n .i64 x.time, .s x.text]
def Rec.av (x : Rec) : AV := .agg [.i x.time, .st x.text]
end Go.Cap

/- Plain model: associations, findings, monitors; reading packets. -/
namespace Go.Cap
open Go Go.Proofs
set_option linter.unusedSimpArgs false
set_option linter.unusedVariables false

structure Assoc where
  fr : Int
  to : Int
  state : Int
  byB : Bool
  a : Side
  b : Side
def Assoc.cellsX (a : Assoc) (x y : RV) : List RV := [.n .i64 a.fr, .n .i64 a.to, .n .i64 a.state, .b a.byB, .n .i64 a.a.tag, .n .i64 a.a.streams, .n .i64 a.a.first, x, .n .i64 a.a.acked, .n .i64 a.b.tag, .n .i64 a.b.streams, .n .i64 a.b.first, y, .n .i64 a.b.acked]
def Assoc.row (a : Assoc) : List RV := a.cellsX (.ro none (a.a.sent.map Data.row)) (.ro none (a.b.sent.map Data.row))
def Assoc.av (a : Assoc) (x y : AV) : AV := .agg [.i a.fr, .i a.to, .i a.state, .bo a.byB, .i a.a.tag, .i a.a.streams, .i a.a.first, x, .i a.a.acked, .i a.b.tag, .i a.b.streams, .i a.b.first, y, .i a.b.acked]
def Assoc.ro (a : Assoc) : AV := a.av (.r (.ro none (a.a.sent.map Data.row))) (.r (.ro none (a.b.sent.map Data.row)))
structure Fnd where
  rcd : Int
  code : Int
  deriving Inhabited
def Fnd.row (f : Fnd) : List RV := [.n .i64 f.rcd, .n .i64 f.code]
def Fnd.av (f : Fnd) : AV := .agg [.i f.rcd, .i f.code]
structure Mon where
  records : Int
  list : List Assoc
  found : List Fnd
def Mon.ro (m : Mon) : AV := .agg [.i m.records, .r (.ro none (m.list.map Assoc.row)), .r (.ro none (m.found.map Fnd.row))]
end Go.Cap

/- Plain model: reading chunks and packets; steps of associations and monitors. -/
namespace Go.Cap
open Go Go.Proofs
set_option linter.unusedSimpArgs false
set_option linter.unusedVariables false

def Assoc.put (a : Assoc) (byB : Bool) (s : Side) : Assoc := if byB then { a with b := s } else { a with a := s }
end Go.Cap

/- Contracts: where a part lies; a valid assembly. -/
namespace Go.Cap
open Go Go.Proofs
set_option maxRecDepth 100000
set_option linter.unusedSimpArgs false
set_option linter.unusedVariables false
attribute [local irreducible] Call Run Spec Le

/-- The index of the first part with a number. -/
def atIx : List Data → Int → Option Nat
  | [], _ => none
  | d :: l, x => if d.tsn = x then some 0 else (atIx l x).map (· + 1)
theorem atIx_spec : ∀ (l : List Data) (x : Int), (∀ i, atIx l x = some i ↔ ∃ h : i < l.length, l[i].tsn = x ∧ ∀ j (hj : j < i), l[j].tsn ≠ x)
  | [], x, i => by simp [atIx]
  | d :: l, x, i => by
    simp only [atIx]
    by_cases hd : d.tsn = x
    · rw [if_pos hd]
      constructor
      · intro h; cases h; exact ⟨by simp, hd, fun j hj => by omega⟩
      · rintro ⟨h, h1, h2⟩
        cases i with
        | zero => rfl
        | succ i => exact absurd hd (h2 0 (by omega))
    · rw [if_neg hd]
      cases i with
      | zero =>
        constructor
        · intro h; cases ha : atIx l x <;> simp [ha] at h
        · rintro ⟨h, h1, _⟩; exact absurd h1 hd
      | succ i =>
        have ih := atIx_spec l x i
        constructor
        · intro h
          cases ha : atIx l x with
          | none => simp [ha] at h
          | some k =>
            simp only [ha, Option.map_some, Option.some.injEq, Nat.add_right_cancel_iff] at h
            subst h
            obtain ⟨h0, h1, h2⟩ := ih.1 ha
            refine ⟨by simpa using h0, by simpa using h1, fun j hj => ?_⟩
            cases j with
            | zero => simpa using hd
            | succ j => simpa using h2 j (by omega)
        · rintro ⟨h, h1, h2⟩
          have : atIx l x = some i := ih.2 ⟨by simpa using h, by simpa using h1, fun j hj => by simpa using h2 (j + 1) (by omega)⟩
          simp [this]
theorem atIx_none : ∀ (l : List Data) (x : Int), atIx l x = none ↔ ∀ d ∈ l, d.tsn ≠ x
  | [], x => by simp [atIx]
  | d :: l, x => by
    simp only [atIx]
    by_cases hd : d.tsn = x
    · rw [if_pos hd]; simp [hd]
    · rw [if_neg hd]
      have ih := atIx_none l x
      cases ha : atIx l x with
      | none => simp [hd, ih.1 ha]; exact ih.1 ha
      | some k =>
        simp only [Option.map_some, reduceCtorEq, false_iff]
        intro h
        have := ih.2 fun y hy => h y (List.mem_cons_of_mem _ hy)
        rw [ha] at this; cases this
end Go.Cap

/- The chain of a message's parts, in plain terms. -/
namespace Go.Cap
open Go Go.Proofs
set_option linter.unusedSimpArgs false
set_option linter.unusedVariables false

def dataAt (l : List Data) (k : Nat) : Data := l.getD k ⟨0, 0, 0, false, false, false, []⟩
theorem dataAt_eq {l : List Data} {k : Nat} (h : k < l.length) : dataAt l k = l[k] := by simp [dataAt, List.getD_eq_getElem?_getD, h]
/-- The index of the part that comes behind part 'k'. -/
def nextIx (l : List Data) (k : Nat) : Option Nat := match atIx l (l3 (dataAt l k).tsn 1) with
  | some j => if (dataAt l j).first || !likeB (dataAt l j) (dataAt l k) then none else some j
  | none => none
def chainN : Nat → List Data → Nat → Option (List Nat)
  | 0, _, _ => none
  | n + 1, l, k => if (dataAt l k).last then some [k] else match nextIx l k with
    | some j => (chainN n l j).map (k :: ·)
    | none => none
def chain (l : List Data) (k : Nat) : Option (List Nat) := chainN l.length l k
/-- The parts that a walk has met: their numbers go up by one. -/
structure Walk (l : List Data) (pre : List Nat) (k : Nat) : Prop where
  last : pre.getLast? = some k
  lt : ∀ i ∈ pre, i < l.length
  tsn : ∀ j (h : j < pre.length), (dataAt l pre[j]).tsn = l3 (dataAt l (pre.headD 0)).tsn j
  nodup : pre.Nodup
theorem nodup_le {pre : List Nat} {n : Nat} (hn : pre.Nodup) (hl : ∀ i ∈ pre, i < n) : pre.length ≤ n := by
  have h2 : pre.length ≤ (List.range n).length := hn.length_le_of_subset (fun x hx => List.mem_range.2 (hl x hx))
  simpa using h2
theorem Walk.one {l : List Data} {k : Nat} (h : k < l.length) (ht : ∀ d ∈ l, 0 ≤ d.tsn ∧ d.tsn < 65536) : Walk l [k] k := by
  refine ⟨rfl, by simpa using h, ?_, by simp⟩
  intro j hj
  have : j = 0 := by simpa using hj
  subst this
  simp only [List.getElem_cons_zero, List.headD_cons]
  have := ht _ (List.getElem_mem h)
  rw [dataAt_eq h]
  exact (l3_zero this).symm
theorem atIx_some {l : List Data} {x : Int} {j : Nat} (h : atIx l x = some j) : ∃ hj : j < l.length, l[j].tsn = x := by
  obtain ⟨h1, h2, _⟩ := (atIx_spec l x j).1 h
  exact ⟨h1, h2⟩
theorem nextIx_some {l : List Data} {k j : Nat} (h : nextIx l k = some j) : atIx l (l3 (dataAt l k).tsn 1) = some j := by
  unfold nextIx at h
  split at h
  · rename_i j' ha
    split at h
    · cases h
    · cases h; exact ha
  · cases h
theorem l3_inj {a : Int} {i j : Nat} (hi : i < 60000) (hj : j < 60000) (h : l3 a i = l3 a j) : i = j := by unfold l3 at h; omega
theorem Walk.step {l : List Data} {pre : List Nat} {k j : Nat} (w : Walk l pre k) (hp : pre.length < 60000) (h : atIx l (l3 (dataAt l k).tsn 1) = some j) : Walk l (pre ++ [j]) j := by
  obtain ⟨hj, ht⟩ := atIx_some h
  have hne : pre ≠ [] := fun e => by have := w.last; rw [e] at this; cases this
  have hpos : 0 < pre.length := List.length_pos_iff.2 hne
  have hk : (dataAt l k).tsn = l3 (dataAt l (pre.headD 0)).tsn ((pre.length - 1 : Nat) : Int) := by
    have h2 := w.tsn (pre.length - 1) (by omega)
    have h3 : pre[pre.length - 1] = k := by
      have := w.last
      rw [List.getLast?_eq_getElem?, List.getElem?_eq_getElem (by omega)] at this
      exact Option.some.inj this
    rw [h3] at h2; exact h2
  have hjt : (dataAt l j).tsn = l3 (dataAt l (pre.headD 0)).tsn (pre.length : Int) := by
    rw [dataAt_eq hj, ht, hk, l3_l3]; congr 1; omega
  have hhead : (pre ++ [j]).headD 0 = pre.headD 0 := by cases pre with
    | nil => exact absurd rfl hne
    | cons a b => rfl
  refine ⟨List.getLast?_concat, fun i hi => ?_, fun i hi => ?_, ?_⟩
  · rcases List.mem_append.1 hi with hi | hi
    · exact w.lt i hi
    · simp only [List.mem_singleton] at hi; subst hi; exact hj
  · rw [hhead]
    rcases Nat.lt_or_ge i pre.length with hip | hip
    · rw [List.getElem_append_left hip]; exact w.tsn i hip
    · have : i = pre.length := by simp only [List.length_append, List.length_cons, List.length_nil] at hi; omega
      subst this
      simp only [List.getElem_concat_length]
      exact hjt
  · rw [List.nodup_append]
    refine ⟨w.nodup, by simp, fun a ha b hb => ?_⟩
    simp only [List.mem_singleton] at hb
    subst hb
    intro e
    subst e
    obtain ⟨i, hi, e⟩ := List.getElem_of_mem ha
    have h4 := w.tsn i hi
    rw [e, hjt] at h4
    have := l3_inj (by omega) (by omega) h4
    omega
end Go.Cap

/- Contracts: a valid assembly (the program's). -/
namespace Go.Cap
open Go Go.Proofs
set_option maxRecDepth 100000
set_option linter.unusedSimpArgs false
set_option linter.unusedVariables false
attribute [local irreducible] Call Run Spec Le

structure Asm where
  next : List Int
  parts : List Data
def intRow (n : Int) : List RV := [.n .i64 n]
def Asm.ro (a : Asm) : AV := .agg [.r (.ro none (a.next.map intRow)), .r (.ro none (a.parts.map Data.row))]
end Go.Cap

/- Contracts: the chain of a message's parts, and the message that is due (the program's). -/
namespace Go.Cap
open Go Go.Proofs
set_option maxRecDepth 100000
set_option linter.unusedSimpArgs false
set_option linter.unusedVariables false
attribute [local irreducible] Call Run Spec Le

theorem walk_head {pre : List Nat} {k : Nat} (h : pre.getLast? = some k) : pre = pre.dropLast ++ [k] := by
  have hne : pre ≠ [] := fun e => by rw [e] at h; cases h
  have h2 := List.dropLast_concat_getLast hne
  rw [List.getLast?_eq_some_getLast hne] at h
  have h3 := Option.some.inj h
  rw [h3] at h2; exact h2.symm
/-- What is known of the chain after a walk. -/
def Goes (l : List Data) (k : Nat) (pre : List Nat) (a : Nat) : Prop := chain l k = (chainN (l.length + 1 - pre.length) l a).map (pre.dropLast ++ ·)
theorem Goes.next {l : List Data} {k a j : Nat} {pre : List Nat} (h : Goes l k pre a) (w : Walk l pre a) (hl : pre.length ≤ l.length) (hla : (dataAt l a).last = false) (hn : nextIx l a = some j) : Goes l k (pre ++ [j]) j := by
  unfold Goes at h ⊢
  have e : l.length + 1 - pre.length = (l.length - pre.length) + 1 := by omega
  have e2 : l.length + 1 - (pre ++ [j]).length = l.length - pre.length := by simp
  rw [e, chainN, if_neg (by simp [hla]), hn] at h
  rw [e2, List.dropLast_concat, h]
  cases hc : chainN (l.length - pre.length) l j with
  | none => simp [hc]
  | some t =>
    simp only [hc, Option.map_some]
    congr 1
    conv => rhs; rw [walk_head w.last]
    simp
theorem chain_ne {l : List Data} {k : Nat} {p : List Nat} : ∀ {n : Nat}, chainN n l k = some p → p ≠ []
  | 0, h => by cases h
  | n + 1, h => by
    rw [chainN] at h
    split at h
    · cases h; simp
    · split at h
      · cases hc : chainN n l _ with
        | none => rw [hc] at h; cases h
        | some t => rw [hc] at h; cases h; simp
      · cases h
/-- The number that a stream waits for. -/
def nextAt (a : Asm) (s : Int) : Int := a.next.getD s.toNat 0
def dueAt (a : Asm) (i : Nat) : Option (List Nat) := if (dataAt a.parts i).first && ((dataAt a.parts i).loose || (dataAt a.parts i).ssn == nextAt a (dataAt a.parts i).stream) then chain a.parts i else none
def dueFrom (a : Asm) : List Nat → Option (List Nat)
  | [] => none
  | i :: l => match dueAt a i with
    | some p => some p
    | none => dueFrom a l
def due (a : Asm) : Option (List Nat) := dueFrom a (List.range a.parts.length)
/-- What the search for a message relies on. -/
structure AsmOk (a : Asm) : Prop where
  len : a.parts.length ≤ 13
  tsn : ∀ d ∈ a.parts, 0 ≤ d.tsn ∧ d.tsn < 65536
  stream : ∀ d ∈ a.parts, 0 ≤ d.stream ∧ d.stream < a.next.length
  next : ∀ n ∈ a.next, serialB n = true
  nlen : a.next.length ≤ 4
end Go.Cap

/- Assemblies in plain terms: taking a message out, settling, adding. -/
namespace Go.Cap
open Go Go.Proofs
set_option linter.unusedSimpArgs false
set_option linter.unusedVariables false

def textOfIx (l : List Data) (p : List Nat) : List UInt8 := p.flatMap fun i => (dataAt l i).text
/-- The parts whose indices are not among some. -/
def restFrom (p : List Nat) : Nat → List Data → List Data
  | _, [] => []
  | i, d :: l => if i ∈ p then restFrom p (i + 1) l else d :: restFrom p (i + 1) l
def msgOf (a : Asm) (p : List Nat) : Msg := ⟨(dataAt a.parts (p.headD 0)).stream, (dataAt a.parts (p.headD 0)).ssn, (dataAt a.parts (p.headD 0)).loose, textOfIx a.parts p⟩
def takeOut (a : Asm) (p : List Nat) : Asm := ⟨if (msgOf a p).loose then a.next else a.next.set (msgOf a p).stream.toNat (l3 (nextAt a (msgOf a p).stream) 1), restFrom p 0 a.parts⟩
/-- A chain is a walk. -/
theorem chain_walk {l : List Data} (ht : ∀ d ∈ l, 0 ≤ d.tsn ∧ d.tsn < 65536) (hl : l.length ≤ 13) : ∀ (n k : Nat) (pre p : List Nat) , chainN n l k = some p → Walk l pre k → ∃ k', Walk l (pre.dropLast ++ p) k'
  | 0, k, pre, p, h, w => by cases h
  | n + 1, k, pre, p, h, w => by
    rw [chainN] at h
    split at h
    · cases h; rw [← walk_head w.last]; exact ⟨k, w⟩
    · split at h
      · rename_i j hj
        cases hc : chainN n l j with
        | none => rw [hc] at h; cases h
        | some t =>
          rw [hc] at h
          cases h
          have hpl := nodup_le w.nodup w.lt
          obtain ⟨k', w2⟩ := chain_walk ht hl n j (pre ++ [j]) t hc (w.step (by omega) (nextIx_some hj))
          rw [List.dropLast_concat] at w2
          refine ⟨k', ?_⟩
          have : pre.dropLast ++ k :: t = pre ++ t := by
            conv => rhs; rw [walk_head w.last]
            simp
          rw [this]; exact w2
      · cases h
theorem chainN_head {l : List Data} : ∀ {n k : Nat} {p : List Nat}, chainN n l k = some p → p.headD 0 = k
  | 0, k, p, h => by cases h
  | n + 1, k, p, h => by
    rw [chainN] at h
    split at h
    · cases h; rfl
    · split at h
      · cases hc : chainN n l _ with
        | none => rw [hc] at h; cases h
        | some t => rw [hc] at h; cases h; rfl
      · cases h
end Go.Cap

/- Contracts: adding a part (the program's): the loops. -/
namespace Go.Cap
open Go Go.Proofs
set_option maxRecDepth 100000
set_option linter.unusedSimpArgs false
set_option linter.unusedVariables false
attribute [local irreducible] Call Run Spec Le

/-- Which indices are taken. -/
def takenR (p : List Nat) : List RV := (List.range 13).map fun j => .b (decide (j ∈ p))
@[go_sem] theorem takenR_len (p : List Nat) : (takenR p).length = 13 := by simp [takenR]
theorem restFrom_drop {p : List Nat} {l : List Data} {i : Nat} (h : i < l.length) : restFrom p i (l.drop i) = if i ∈ p then restFrom p (i + 1) (l.drop (i + 1)) else l[i] :: restFrom p (i + 1) (l.drop (i + 1)) := by
  rw [List.drop_eq_getElem_cons h]; rfl
end Go.Cap

/- Contracts: adding a part (the program's). -/
namespace Go.Cap
open Go Go.Proofs
set_option maxRecDepth 100000
set_option linter.unusedSimpArgs false
set_option linter.unusedVariables false
attribute [local irreducible] Call Run Spec Le

theorem due_some {a : Asm} {p : List Nat} (h : due a = some p) : ∃ i, i < a.parts.length ∧ dueAt a i = some p := by
  have key : ∀ l : List Nat, dueFrom a l = some p → ∃ i ∈ l, dueAt a i = some p := by
    intro l
    induction l with
    | nil => intro h; cases h
    | cons i l ih =>
      intro h
      rw [dueFrom] at h
      cases hd : dueAt a i with
      | some q => rw [hd] at h; cases h; exact ⟨i, List.mem_cons_self .., hd⟩
      | none =>
        rw [hd] at h
        obtain ⟨j, hj, h2⟩ := ih h
        exact ⟨j, List.mem_cons_of_mem _ hj, h2⟩
  obtain ⟨i, hi, h2⟩ := key _ h
  exact ⟨i, List.mem_range.1 hi, h2⟩
/-- What a message that is due promises. -/
structure DueOk (a : Asm) (p : List Nat) : Prop where
  ne : p ≠ []
  lt : ∀ i ∈ p, i < a.parts.length
  nodup : p.Nodup
  first : (dataAt a.parts (p.headD 0)).first = true
  ssn : (dataAt a.parts (p.headD 0)).loose = true ∨ (dataAt a.parts (p.headD 0)).ssn = nextAt a (dataAt a.parts (p.headD 0)).stream
theorem due_ok {a : Asm} (h : AsmOk a) {p : List Nat} (hd : due a = some p) : DueOk a p := by
  obtain ⟨i, hi, h2⟩ := due_some hd
  unfold dueAt at h2
  split at h2
  · rename_i hc
    have hh := chainN_head h2
    obtain ⟨k', w⟩ := chain_walk h.tsn h.len _ i [i] p h2 (Walk.one hi h.tsn)
    simp only [List.dropLast_singleton, List.nil_append] at w
    simp only [Bool.and_eq_true, Bool.or_eq_true, beq_iff_eq] at hc
    exact ⟨chain_ne h2, w.lt, w.nodup, by rw [hh]; exact hc.1, by rw [hh]; exact hc.2⟩
  · cases h2
end Go.Cap

/- Contracts: adding a part (the program's), whole. -/
namespace Go.Cap
open Go Go.Proofs
set_option maxRecDepth 100000
set_option linter.unusedSimpArgs false
set_option linter.unusedVariables false
attribute [local irreducible] Call Run Spec Le

theorem data_ok {d : Data} (h : dataB d = true) : (0 ≤ d.tsn ∧ d.tsn < 65536) ∧ (0 ≤ d.stream ∧ d.stream < 65536) ∧ (0 ≤ d.ssn ∧ d.ssn < 65536) ∧ 1 ≤ d.text.length ∧ d.text.length ≤ 20 := by
  simp only [dataB, serialB, Bool.and_eq_true, decide_eq_true_eq] at h
  exact ⟨h.1.1.1, h.1.1.2, h.1.2, h.2.1, h.2.2⟩
end Go.Cap

/- Groups of parts, in plain terms: which messages an assembly gives. -/
namespace Go.Cap
open Go Go.Proofs
set_option linter.unusedSimpArgs false
set_option linter.unusedVariables false

theorem nd_inj {α : Type} {l : List α} (h : l.Nodup) {i j : Nat} (hi : i < l.length) (hj : j < l.length) (e : l[i] = l[j]) : i = j := by
  have hp := List.pairwise_iff_getElem.1 h
  rcases Nat.lt_trichotomy i j with h1 | h1 | h1
  · exact absurd e (hp i j hi hj h1)
  · exact h1
  · exact absurd e.symm (hp j i hj hi h1)
def d0 : Data := ⟨0, 0, 0, false, false, false, []⟩
def hd (g : List Data) : Data := g.headD d0
/-- The parts of one message. -/
structure Grp (g : List Data) : Prop where
  ne : g ≠ []
  first : ∀ j (h : j < g.length), g[j].first = decide (j = 0)
  last : ∀ j (h : j < g.length), g[j].last = decide (j + 1 = g.length)
  like : ∀ j (h : j + 1 < g.length), likeB g[j + 1] g[j] = true
  tsn : ∀ j (h : j + 1 < g.length), g[j + 1].tsn = l3 g[j].tsn 1
def msgG (g : List Data) : Msg := ⟨(hd g).stream, (hd g).ssn, (hd g).loose, g.flatMap Data.text⟩
def ord (s : Int) (g : List Data) : Bool := !(hd g).loose && (hd g).stream == s
def hasT (g : List Data) (x : Int) : Bool := g.any fun e => e.tsn == x
structure Grps (gs : List (List Data)) : Prop where
  grp : ∀ g ∈ gs, Grp g
  inj : ∀ d ∈ gs.flatten, ∀ e ∈ gs.flatten, d.tsn = e.tsn → d = e
  nd : gs.flatten.Nodup
  rng : ∀ d ∈ gs.flatten, 0 ≤ d.tsn ∧ d.tsn < 65536
  rank : ∀ i (h : i < gs.length), (hd gs[i]).loose = false → (hd gs[i]).ssn = ((gs.take i).countP (ord (hd gs[i]).stream) : Nat)
theorem Grps.mem {gs : List (List Data)} {g : List Data} {d : Data} (h : g ∈ gs) (hd : d ∈ g) : d ∈ gs.flatten := List.mem_flatten.2 ⟨g, h, hd⟩
theorem hd_eq {g : List Data} (h : 0 < g.length) : hd g = g[0] := by cases g with
  | nil => cases h
  | cons a l => rfl
theorem hasT_mem {gs : List (List Data)} (G : Grps gs) {g : List Data} (hg : g ∈ gs) {d : Data} (hd : d ∈ gs.flatten) : hasT g d.tsn = true ↔ d ∈ g := by
  unfold hasT
  rw [List.any_eq_true]
  constructor
  · rintro ⟨e, he, h⟩
    rw [G.inj d hd e (Grps.mem hg he) (by simpa using (beq_iff_eq.1 h).symm)]
    exact he
  · intro h; exact ⟨d, h, by simp⟩
def ixOf (l : List Data) (d : Data) : Nat := (atIx l d.tsn).getD 0
/-- Where parts lie. -/
structure Sub (gs : List (List Data)) (l : List Data) : Prop where
  mem : ∀ d ∈ l, d ∈ gs.flatten
  nd : l.Nodup
theorem Sub.ix {gs : List (List Data)} (G : Grps gs) {l : List Data} (S : Sub gs l) {d : Data} (h : d ∈ l) : ∃ i, atIx l d.tsn = some i ∧ ixOf l d = i ∧ ∃ hi : i < l.length, l[i] = d := by
  cases ha : atIx l d.tsn with
  | none => exact absurd rfl ((atIx_none _ _).1 ha d h)
  | some i =>
    obtain ⟨hi, ht⟩ := atIx_some ha
    exact ⟨i, rfl, by simp [ixOf, ha], hi, G.inj _ (S.mem _ (List.getElem_mem hi)) _ (S.mem _ h) ht⟩
theorem Sub.ix_get {gs : List (List Data)} (G : Grps gs) {l : List Data} (S : Sub gs l) {i : Nat} (hi : i < l.length) : ixOf l l[i] = i := by
  obtain ⟨j, _, h2, hj, h3⟩ := S.ix G (List.getElem_mem hi)
  rw [h2]
  exact nd_inj S.nd hj hi h3
theorem Sub.at {gs : List (List Data)} (G : Grps gs) {l : List Data} (S : Sub gs l) {d : Data} (h : d ∈ l) : dataAt l (ixOf l d) = d ∧ ixOf l d < l.length := by
  obtain ⟨i, _, h2, hi, h3⟩ := S.ix G h
  rw [h2, dataAt_eq hi]; exact ⟨h3, hi⟩
theorem drop_cons {g : List Data} {j : Nat} (h : j < g.length) : g.drop j = g[j] :: g.drop (j + 1) := List.drop_eq_getElem_cons h
/-- Parts that are left when a message is taken out. -/
theorem rest_of {gs : List (List Data)} (G : Grps gs) {l : List Data} (S : Sub gs l) {g : List Data} (hg : g ∈ gs) (hl : ∀ d ∈ g, d ∈ l) : ∀ (k : Nat), k ≤ l.length → restFrom (g.map (ixOf l)) k (l.drop k) = (l.drop k).filter fun d => !hasT g d.tsn := by
  intro k hk
  induction h : l.length - k generalizing k with
  | zero => rw [List.drop_eq_nil_of_le (by omega)]; rfl
  | succ m ih =>
    have hkl : k < l.length := by omega
    rw [restFrom_drop hkl, ih (k + 1) (by omega) (by omega), drop_cons hkl, List.filter_cons]
    have hm : k ∈ g.map (ixOf l) ↔ hasT g l[k].tsn = true := by
      rw [hasT_mem G hg (S.mem _ (List.getElem_mem hkl)), List.mem_map]
      constructor
      · rintro ⟨e, he, h2⟩
        obtain ⟨h3, h4⟩ := S.at G (hl e he)
        rw [h2, dataAt_eq hkl] at h3
        rw [h3]; exact he
      · intro h2; exact ⟨_, h2, S.ix_get G hkl⟩
    by_cases hq : hasT g l[k].tsn = true
    · rw [if_pos (hm.2 hq), if_neg (by simp [hq])]
    · rw [if_neg (fun h2 => hq (hm.1 h2)), if_pos (by simpa using hq)]
theorem text_of {gs : List (List Data)} (G : Grps gs) {l : List Data} (S : Sub gs l) : ∀ (g : List Data), (∀ d ∈ g, d ∈ l) → textOfIx l (g.map (ixOf l)) = g.flatMap Data.text
  | [], _ => rfl
  | d :: g, h => by
    have ih := text_of G S g fun x hx => h x (List.mem_cons_of_mem _ hx)
    unfold textOfIx at ih ⊢
    rw [List.map_cons, List.flatMap_cons, ih, (S.at G (h d (List.mem_cons_self ..))).1, List.flatMap_cons]
theorem msg_of {gs : List (List Data)} (G : Grps gs) {a : Asm} (S : Sub gs a.parts) {g : List Data} (hg : g ∈ gs) (hl : ∀ d ∈ g, d ∈ a.parts) : msgOf a (g.map (ixOf a.parts)) = msgG g := by
  have ht := text_of G S g hl
  unfold msgOf msgG
  rw [ht]
  cases g with
  | nil => exact absurd rfl (G.grp _ hg).ne
  | cons d g =>
    have := (S.at G (hl d (List.mem_cons_self ..))).1
    simp only [List.map_cons, List.headD_cons, hd, this]
/-- What an assembly has of the groups: those that were told, in order. -/
structure AInv (gs : List (List Data)) (n : Nat) (arr : List Data) (a : Asm) (ms : List Msg) (T : List (List Data)) : Prop where
  sub : ∀ g ∈ T, g ∈ gs
  in_ : ∀ g ∈ T, ∀ d ∈ g, d ∈ arr
  nd : T.Nodup
  ms : ms = T.map msgG
  parts : a.parts = arr.filter fun d => !(T.any fun g => hasT g d.tsn)
  nlen : a.next.length = n
  next : ∀ s : Int, 0 ≤ s → s < n → nextAt a s = (T.countP (ord s) : Nat)
  rk : ∀ (i : Nat) (s : Int) (h : i < (T.filter (ord s)).length), (hd ((T.filter (ord s))[i])).ssn = (i : Int)
/-- What is known of all parts. -/
structure Base (gs : List (List Data)) (n : Nat) : Prop where
  G : Grps gs
  n4 : 1 ≤ n ∧ n ≤ 4
  many : gs.length ≤ 60000
  str : ∀ d ∈ gs.flatten, 0 ≤ d.stream ∧ d.stream < n
section
variable {gs : List (List Data)} {n : Nat} {arr : List Data} {a : Asm} {ms : List Msg} {T : List (List Data)}
theorem AInv.S (B : Base gs n) (A : Sub gs arr) (I : AInv gs n arr a ms T) : Sub gs a.parts := by
  rw [I.parts]
  exact ⟨fun d hd => A.mem d (List.mem_filter.1 hd).1, A.nd.filter _⟩
theorem AInv.mem (B : Base gs n) (A : Sub gs arr) (I : AInv gs n arr a ms T) {d : Data} : d ∈ a.parts ↔ d ∈ arr ∧ ∀ g ∈ T, d ∉ g := by
  rw [I.parts, List.mem_filter]
  refine and_congr_right fun hd => ?_
  rw [Bool.not_eq_true', List.any_eq_false]
  exact forall_congr' fun g => forall_congr' fun hg => not_congr (hasT_mem B.G (I.sub g hg) (A.mem d hd))
theorem hd_mem {g : List Data} (h : g ≠ []) : hd g ∈ g := by cases g with
  | nil => exact absurd rfl h
  | cons d g => exact List.mem_cons_self ..
theorem like_hd {g : List Data} (h : Grp g) : ∀ (j : Nat) (hj : j < g.length), g[j].stream = (hd g).stream ∧ g[j].ssn = (hd g).ssn ∧ g[j].loose = (hd g).loose
  | 0, hj => by rw [hd_eq hj]; exact ⟨rfl, rfl, rfl⟩
  | j + 1, hj => by
    obtain ⟨h1, h2, h3⟩ := like_hd h j (by omega)
    have := h.like j hj
    simp only [likeB, Bool.and_eq_true, beq_iff_eq] at this
    exact ⟨this.1.1.trans h1, this.1.2.trans h2, this.2.trans h3⟩
theorem like_mem {g : List Data} (h : Grp g) {d : Data} (hd' : d ∈ g) : d.stream = (hd g).stream ∧ d.ssn = (hd g).ssn ∧ d.loose = (hd g).loose := by
  obtain ⟨j, hj, rfl⟩ := List.getElem_of_mem hd'
  exact like_hd h j hj
theorem AInv.fresh (B : Base gs n) (A : Sub gs arr) (I : AInv gs n arr a ms T) {g : List Data} (hg : g ∈ gs) (hl : ∀ d ∈ g, d ∈ a.parts) : g ∉ T := fun h => by
  have := hd_mem (B.G.grp g hg).ne
  exact ((I.mem B A).1 (hl _ this)).2 g h this
theorem AInv.count (B : Base gs n) (I : AInv gs n arr a ms T) : T.length ≤ gs.length := I.nd.length_le_of_subset I.sub
/-- Taking a group out. -/
theorem AInv.take (B : Base gs n) (A : Sub gs arr) (I : AInv gs n arr a ms T) {g : List Data} (hg : g ∈ gs) (hl : ∀ d ∈ g, d ∈ a.parts) (ho : (hd g).loose = true ∨ (hd g).ssn = nextAt a (hd g).stream) :
    AInv gs n arr (takeOut a (g.map (ixOf a.parts))) (ms ++ [msgOf a (g.map (ixOf a.parts))]) (T ++ [g]) := by
  have S := I.S B A
  have hfr := I.fresh B A hg hl
  have hmg := msg_of B.G S hg hl
  have hstr := B.str _ (Grps.mem hg (hd_mem (B.G.grp g hg).ne))
  have hnd : (T ++ [g]).Nodup := by
    rw [List.nodup_append]
    exact ⟨I.nd, by simp, fun x hx y hy => by simp only [List.mem_singleton] at hy; subst hy; exact fun e => hfr (e ▸ hx)⟩
  refine ⟨fun x hx => ?_, fun x hx d hdx => ?_, hnd, ?_, ?_, ?_, fun s hs hsn => ?_, fun i s h => ?_⟩
  · rcases List.mem_append.1 hx with hx | hx
    · exact I.sub x hx
    · simp only [List.mem_singleton] at hx; subst hx; exact hg
  · rcases List.mem_append.1 hx with hx | hx
    · exact I.in_ x hx d hdx
    · simp only [List.mem_singleton] at hx; subst hx; exact ((I.mem B A).1 (hl d hdx)).1
  · rw [hmg, I.ms, List.map_append]; rfl
  · show restFrom _ 0 a.parts = _
    have := rest_of B.G S hg hl 0 (Nat.zero_le _)
    rw [List.drop_zero] at this
    rw [this, I.parts, List.filter_filter]
    congr 1
    funext d
    rw [List.any_append]
    simp only [List.any_cons, List.any_nil, Bool.or_false, Bool.not_or]
    exact Bool.and_comm _ _
  · unfold takeOut; simp only; split <;> simp [I.nlen]
  · have hcnt : (T ++ [g]).countP (ord s) = T.countP (ord s) + if ord s g = true then 1 else 0 := by
      rw [List.countP_append, List.countP_cons, List.countP_nil]; simp
    have hI := I.next s hs hsn
    have hcl : T.countP (ord s) ≤ 60000 := Nat.le_trans (Nat.le_trans List.countP_le_length (I.count B)) B.many
    unfold takeOut
    rw [hmg]
    unfold nextAt at hI ⊢
    rw [hcnt]
    by_cases hlo : (hd g).loose = true
    · have : (msgG g).loose = true := hlo
      rw [if_pos this, hI]
      simp [ord, hlo]
    · have hlo' : ¬ ((msgG g).loose = true) := hlo
      rw [if_neg hlo']
      have hms : (msgG g).stream = (hd g).stream := rfl
      rw [hms]
      have hnl := I.nlen
      by_cases hst : (hd g).stream = s
      · have : ord s g = true := by simp [ord, hlo, hst]
        rw [if_pos this, hst]
        simp only [List.getD_eq_getElem?_getD]
        rw [List.getElem?_set_self (by omega)]
        simp only [List.getD_eq_getElem?_getD] at hI
        rw [Option.getD_some, hI]
        unfold l3; omega
      · have : ¬ (ord s g = true) := by simp [ord, hst]
        rw [if_neg this]
        simp only [List.getD_eq_getElem?_getD]
        rw [List.getElem?_set_ne (by omega)]
        simp only [List.getD_eq_getElem?_getD] at hI
        exact hI
  · have hfl : (T ++ [g]).filter (ord s) = T.filter (ord s) ++ if ord s g = true then [g] else [] := by
      rw [List.filter_append, List.filter_cons, List.filter_nil]
    rcases Nat.lt_or_ge i (T.filter (ord s)).length with hi | hi
    · have e : ((T ++ [g]).filter (ord s))[i] = (T.filter (ord s))[i] := by
        simp only [hfl]; exact List.getElem_append_left hi
      rw [e]; exact I.rk i s hi
    · by_cases ht : ord s g = true
      · have hlen : ((T ++ [g]).filter (ord s)).length = (T.filter (ord s)).length + 1 := by rw [hfl, if_pos ht]; simp
        have hie : i = (T.filter (ord s)).length := by omega
        have e : ((T ++ [g]).filter (ord s))[i] = g := by
          simp only [hfl, if_pos ht]
          rw [List.getElem_append_right (by omega)]; simp
        rw [e, hie]
        simp only [ord, Bool.and_eq_true, Bool.not_eq_true', beq_iff_eq] at ht
        rcases ho with ho | ho
        · rw [ho] at ht; cases ht.1
        · rw [ho, I.next _ hstr.1 hstr.2, ht.2, List.countP_eq_length_filter]
      · rw [hfl, if_neg ht, List.append_nil] at h; omega
theorem filter_len_le {p : Data → Bool} {l : List Data} : (l.filter p).length ≤ l.length := List.length_filter_le ..
theorem AInv.ok (B : Base gs n) (A : Sub gs arr) (I : AInv gs n arr a ms T) (hl : arr.length ≤ 13) : AsmOk a := by
  have S := I.S B A
  refine ⟨by rw [I.parts]; exact Nat.le_trans filter_len_le hl, fun d hd => B.G.rng d (S.mem d hd), fun d hd => by rw [I.nlen]; exact B.str d (S.mem d hd), fun x hx => ?_, by rw [I.nlen]; exact B.n4.2⟩
  obtain ⟨i, hi, rfl⟩ := List.getElem_of_mem hx
  have h1 := I.next i (by omega) (by rw [← I.nlen]; omega)
  have hcl : T.countP (ord i) ≤ 60000 := Nat.le_trans (Nat.le_trans List.countP_le_length (I.count B)) B.many
  unfold nextAt at h1
  simp only [Int.toNat_natCast, List.getD_eq_getElem?_getD, List.getElem?_eq_getElem hi, Option.getD_some] at h1
  rw [h1]
  simp only [serialB, decide_eq_true_eq]; omega
end
end Go.Cap

/- Parts that follow one another make groups; what an assembly gives of them, in order and in any order. -/
namespace Go.Cap
open Go Go.Proofs
set_option linter.unusedSimpArgs false
set_option linter.unusedVariables false

/-- The parts of a message that is still open. -/
structure PreG (g : List Data) : Prop where
  first : ∀ j (h : j < g.length), g[j].first = decide (j = 0)
  last : ∀ j (h : j + 1 < g.length), g[j].last = false
  like : ∀ j (h : j + 1 < g.length), likeB g[j + 1] g[j] = true
  tsn : ∀ j (h : j + 1 < g.length), g[j + 1].tsn = l3 g[j].tsn 1
theorem PreG.snoc {c : List Data} {d : Data} (h : PreG c) (hl : ∀ x ∈ c, x.last = false) (hf : d.first = decide (c.length = 0)) (hk : ∀ x, c.getLast? = some x → likeB d x = true ∧ d.tsn = l3 x.tsn 1) : PreG (c ++ [d]) := by
  have hlast : ∀ j (hj : j + 1 = c.length), c.getLast? = some (c[j]'(by omega)) := fun j hj => by
    rw [List.getLast?_eq_getElem?, List.getElem?_eq_getElem (by omega)]; congr 2; omega
  refine ⟨fun j hj => ?_, fun j hj => ?_, fun j hj => ?_, fun j hj => ?_⟩
  · rw [List.length_append, List.length_singleton] at hj
    rcases Nat.lt_or_ge j c.length with h1 | h1
    · rw [List.getElem_append_left h1]; exact h.first j h1
    · have : j = c.length := by omega
      subst this
      rw [List.getElem_concat_length rfl, hf]
  · rw [List.length_append, List.length_singleton] at hj
    rw [List.getElem_append_left (by omega)]; exact hl _ (List.getElem_mem _)
  · rw [List.length_append, List.length_singleton] at hj
    rcases Nat.lt_or_ge (j + 1) c.length with h1 | h1
    · rw [List.getElem_append_left h1, List.getElem_append_left (by omega)]; exact h.like j h1
    · have h2 : j + 1 = c.length := by omega
      rw [List.getElem_concat_length h2, List.getElem_append_left (by omega)]
      exact (hk _ (hlast j h2)).1
  · rw [List.length_append, List.length_singleton] at hj
    rcases Nat.lt_or_ge (j + 1) c.length with h1 | h1
    · rw [List.getElem_append_left h1, List.getElem_append_left (by omega)]; exact h.tsn j h1
    · have h2 : j + 1 = c.length := by omega
      rw [List.getElem_concat_length h2, List.getElem_append_left (by omega)]
      exact (hk _ (hlast j h2)).2
theorem PreG.close {c : List Data} {d : Data} (h : PreG (c ++ [d])) (hd : d.last = true) : Grp (c ++ [d]) := by
  refine ⟨by simp, h.first, fun j hj => ?_, h.like, h.tsn⟩
  by_cases h1 : j + 1 = (c ++ [d]).length
  · rw [decide_eq_true h1]
    rw [List.length_append, List.length_singleton] at h1
    have : j = c.length := by omega
    subst this
    rw [List.getElem_concat_length rfl]; exact hd
  · rw [decide_eq_false h1]; exact h.last j (by omega)
/-- Parts, cut into groups and what is still open. -/
structure Cut (P : List Data) (gs : List (List Data)) (cur : List Data) : Prop where
  eq : P = gs.flatten ++ cur
  grp : ∀ g ∈ gs, Grp g
  pre : PreG cur
  lst : ∀ x ∈ cur, x.last = false
  said : saidSt P = (gs.map msgG, cur.flatMap Data.text)
  rank : ∀ i (h : i < gs.length), (hd gs[i]).loose = false → (hd gs[i]).ssn = ((gs.take i).countP (ord (hd gs[i]).stream) : Nat)
  crank : cur ≠ [] → (hd cur).loose = false → (hd cur).ssn = (gs.countP (ord (hd cur).stream) : Nat)
  cnt : ∀ s, ssnIn P s = gs.countP (ord s) + (if cur ≠ [] ∧ ord s cur = true then 1 else 0)
theorem Cut.nil : Cut [] [] [] := ⟨rfl, fun g h => (List.not_mem_nil h).elim, ⟨fun j h => by simp at h, fun j h => by simp at h, fun j h => by simp at h, fun j h => by simp at h⟩, fun x h => (List.not_mem_nil h).elim, rfl, fun i h => by simp at h, fun h => absurd rfl h, fun s => by simp [ssnIn]⟩
theorem flat_last {gs : List (List Data)} (h : ∀ g ∈ gs, Grp g) {x : Data} (hx : gs.flatten.getLast? = some x) : x.last = true := by
  rcases gs.eq_nil_or_concat with rfl | ⟨g0, g, rfl⟩
  · simp at hx
  · rw [List.concat_eq_append] at h hx
    have hg := h g (by simp)
    rcases g.eq_nil_or_concat with rfl | ⟨c, y, rfl⟩
    · exact absurd rfl hg.ne
    · rw [List.concat_eq_append] at hx hg
      rw [List.flatten_append, List.flatten_singleton, ← List.append_assoc, List.getLast?_concat] at hx
      cases hx
      have := hg.last c.length (by simp)
      rw [List.getElem_concat_length rfl] at this
      rw [this]; simp
theorem hd_app {c : List Data} {d : Data} (h : c ≠ []) : hd (c ++ [d]) = hd c := by cases c with
  | nil => exact absurd rfl h
  | cons a l => rfl
theorem Cut.next {P : List Data} {gs : List (List Data)} {cur : List Data} {d : Data} (h : Cut P gs cur) (hm : mayB P d = true) (ht : ∀ x, P.getLast? = some x → d.tsn = l3 x.tsn 1) : ∃ gs' cur', Cut (P ++ [d]) gs' cur' := by
  -- what is known of the part that comes
  have hnew : cur = [] → d.first = true ∧ (d.loose = true ∨ d.ssn = (ssnIn P d.stream : Nat)) := fun hc => by
    have hP : P = gs.flatten := by rw [h.eq, hc, List.append_nil]
    unfold mayB at hm
    cases hx : P.getLast? with
    | none => rw [hx] at hm; simpa using hm
    | some x =>
      rw [hx] at hm
      have := flat_last h.grp (hP ▸ hx)
      simp only [this, if_true] at hm
      simpa using hm
  have hold : ∀ x, cur.getLast? = some x → d.first = false ∧ likeB d x = true ∧ d.tsn = l3 x.tsn 1 := fun x hx => by
    have hP : P.getLast? = some x := by rw [h.eq, List.getLast?_append, hx]; rfl
    have hxl := h.lst x (List.mem_of_getLast? hx)
    unfold mayB at hm
    rw [hP] at hm
    simp only [hxl, Bool.false_eq_true, if_false, Bool.and_eq_true, Bool.not_eq_true'] at hm
    exact ⟨hm.1, hm.2, ht x hP⟩
  have hfirst : d.first = decide (cur.length = 0) := by
    by_cases hc : cur = []
    · rw [(hnew hc).1, hc]; rfl
    · obtain ⟨x, hx⟩ : ∃ x, cur.getLast? = some x := by cases hg : cur.getLast? with
        | none => exact absurd (List.getLast?_eq_none_iff.1 hg) hc
        | some x => exact ⟨x, rfl⟩
      rw [(hold x hx).1, decide_eq_false (fun e => hc (List.eq_nil_of_length_eq_zero e))]
  have hpre : PreG (cur ++ [d]) := h.pre.snoc h.lst hfirst fun x hx => (hold x hx).2
  have hhd : hd (cur ++ [d]) = if cur = [] then d else hd cur := by
    split
    · rename_i hc; rw [hc]; rfl
    · rename_i hc; exact hd_app hc
  have hrk : (hd (cur ++ [d])).loose = false → (hd (cur ++ [d])).ssn = (gs.countP (ord (hd (cur ++ [d])).stream) : Nat) := by
    by_cases hc : cur = []
    · rw [hhd, if_pos hc]
      intro hl
      rcases (hnew hc).2 with h1 | h1
      · rw [h1] at hl; cases hl
      · rw [h1, h.cnt, hc]; simp
    · rw [hhd, if_neg hc]; exact h.crank hc
  have hcnt : ∀ s, ssnIn (P ++ [d]) s = gs.countP (ord s) + (if ord s (cur ++ [d]) = true then 1 else 0) := fun s => by
    rw [ssnIn_app, h.cnt s]
    by_cases hc : cur = []
    · have h1 := (hnew hc).1
      subst hc
      simp [ssnIn, ord, h1, hd, List.countP_cons]
    · have h1 : d.first = false := by rw [hfirst, decide_eq_false (fun e => hc (List.eq_nil_of_length_eq_zero e))]
      have h2 : ord s (cur ++ [d]) = ord s cur := by unfold ord; rw [hd_app hc]
      rw [h2]
      simp [ssnIn, h1, hc, List.countP_cons]
  have htxt : (cur ++ [d]).flatMap Data.text = cur.flatMap Data.text ++ d.text := by simp
  by_cases hdl : d.last = true
  · have hg := hpre.close hdl
    obtain ⟨k1, k2, k3⟩ := like_mem hg (d := d) (by simp)
    refine ⟨gs ++ [cur ++ [d]], [], ?_⟩
    refine ⟨by rw [h.eq]; simp, fun g hgm => ?_, Cut.nil.pre, fun x hx => (List.not_mem_nil hx).elim, ?_, fun i hi => ?_, fun hx => absurd rfl hx, fun s => ?_⟩
    · rcases List.mem_append.1 hgm with hgm | hgm
      · exact h.grp g hgm
      · simp only [List.mem_singleton] at hgm; subst hgm; exact hg
    · rw [saidSt_app, h.said]
      simp only [List.foldl_cons, List.foldl_nil, saidStep, hdl, if_true, List.map_append, List.map_cons, List.map_nil, List.flatMap_nil]
      unfold msgG
      rw [← k1, ← k2, ← k3, htxt]
    · rw [List.length_append, List.length_singleton] at hi
      rcases Nat.lt_or_ge i gs.length with h1 | h1
      · rw [List.getElem_append_left h1, List.take_append_of_le_length (by omega)]; exact h.rank i h1
      · have : i = gs.length := by omega
        subst this
        rw [List.getElem_concat_length rfl, List.take_left]
        exact hrk
    · rw [hcnt, List.countP_append, List.countP_cons, List.countP_nil]; simp
  · have hdl' : d.last = false := by simpa using hdl
    refine ⟨gs, cur ++ [d], ?_⟩
    refine ⟨by rw [h.eq, List.append_assoc], h.grp, hpre, fun x hx => ?_, ?_, h.rank, fun _ => hrk, fun s => ?_⟩
    · rcases List.mem_append.1 hx with hx | hx
      · exact h.lst x hx
      · simp only [List.mem_singleton] at hx; subst hx; exact hdl'
    · rw [saidSt_app, h.said]
      simp only [List.foldl_cons, List.foldl_nil, saidStep, hdl', Bool.false_eq_true, if_false, htxt]
    · rw [hcnt]; simp
/-- Parts of a side: numbered, each one may follow the ones ahead of it. -/
def SeqP (f : Int) (n : Nat) (P : List Data) : Prop := ∀ i (hi : i < P.length), dataB P[i] = true ∧ P[i].tsn = l3 f i ∧ P[i].stream < n ∧ mayB (P.take i) P[i] = true
theorem SeqP.ok {f : Int} {n : Nat} {P : List Data} (h : SeqP f n P) : ∀ d ∈ P, dataB d = true := fun d hd => by
  obtain ⟨i, hi, rfl⟩ := List.getElem_of_mem hd
  exact (h i hi).1
end Go.Cap

/- The parts of a talk are a side's. -/
namespace Go.Cap
open Go Go.Proofs
set_option linter.unusedSimpArgs false
set_option linter.unusedVariables false

/-- The parts of a talk, in any order. -/
theorem talk_seq {t : Talk} (hv : talkB t = true) (byB : Bool) : ∃ n : Nat, (t.init byB).streams = n ∧ (1 ≤ n ∧ n ≤ 4) ∧ SeqP (t.init byB).tsn n (talkParts t byB) ∧ ∀ x, (talkParts t byB).getLast? = some x → x.last = true := by
  have hi := init_ok hv byB
  have hf := talk_fit hv byB
  simp only [initB, Bool.and_eq_true, decide_eq_true_eq] at hi
  obtain ⟨⟨⟨i1, i2, i3, i4⟩, _⟩, i6⟩ := hi
  refine ⟨(t.init byB).streams.toNat, by omega, by omega, fun i h => ?_, hf.last⟩
  obtain ⟨k1, k2, k3, k4⟩ := hf.ok i h
  exact ⟨k1, k2, by omega, k4⟩
end Go.Cap

/- Plain facts: the parts of a talk in the order in which they are said; the packets of a talk. -/
namespace Go.Cap
open Go Go.Proofs
set_option linter.unusedSimpArgs false
set_option linter.unusedVariables false

def sideL (b : Bool) (l : List (Bool × Data)) : List Data := (l.filter fun x => x.1 == b).map (·.2)
theorem sideL_app (b : Bool) (x y : List (Bool × Data)) : sideL b (x ++ y) = sideL b x ++ sideL b y := by simp [sideL]
theorem sideL_same (b : Bool) (l : List Data) : sideL b (l.map fun d => (b, d)) = l := by
  unfold sideL
  induction l with
  | nil => rfl
  | cons d l ih => simp at ih ⊢; exact ih
theorem sideL_other {b c : Bool} (h : c ≠ b) (l : List Data) : sideL b (l.map fun d => (c, d)) = [] := by
  unfold sideL
  induction l with
  | nil => rfl
  | cons d l ih => simp [h]
theorem talkAll_side (z : Nat) (ta tb : Int) : ∀ (l : List Say) (oa ob : List Data), partsAcc z ta false l oa = oa ++ sideL false (talkAll z ta tb l oa ob) ∧ partsAcc z tb true l ob = ob ++ sideL true (talkAll z ta tb l oa ob)
  | [], oa, ob => by simp [partsAcc, talkAll, sideL]
  | s :: l, oa, ob => by
    simp only [partsAcc, talkAll]
    cases hb : s.byB
    · obtain ⟨h1, h2⟩ := talkAll_side z ta tb l (oa ++ nextParts z ta oa s) ob
      simp only [Bool.false_eq_true, if_false, if_true, sideL_app, sideL_same, sideL_other (show (false : Bool) ≠ true by decide), List.nil_append]
      exact ⟨by rw [h1, List.append_assoc], by first | exact h2 | (rw [if_neg (by decide)]; exact h2)⟩
    · obtain ⟨h1, h2⟩ := talkAll_side z ta tb l oa (ob ++ nextParts z tb ob s)
      simp only [Bool.true_eq_false, if_false, if_true, sideL_app, sideL_same, sideL_other (show (true : Bool) ≠ false by decide), List.nil_append]
      exact ⟨by first | exact h1 | (rw [if_neg (by decide)]; exact h1), by rw [h2, List.append_assoc]⟩
theorem talk_side {t : Talk} (hv : talkB t = true) (b : Bool) : sideL b t.all = talkParts t b := by
  obtain ⟨h1, h2⟩ := talkAll_side t.size.toNat t.a.tsn t.b.tsn t.says [] []
  unfold talkParts Talk.all
  rw [if_pos hv]
  cases b
  · rw [show t.tsn false = t.a.tsn from rfl, h1]; rfl
  · rw [show t.tsn true = t.b.tsn from rfl, h2]; rfl
theorem sides_len : ∀ (l : List (Bool × Data)), l.length = (sideL false l).length + (sideL true l).length
  | [] => rfl
  | (b, d) :: l => by
    have := sides_len l
    cases b <;> simp [sideL] at this ⊢ <;> omega
theorem saysPk_len (t : Talk) (l : List (Bool × Data)) : (saysPk t l).length = 2 * l.length := by
  induction l with
  | nil => rfl
  | cons x l ih =>
    have : saysPk t (x :: l) = [onePk t x.1 (dataPut x.2), onePk t (!x.1) (sackPut ⟨x.2.tsn, []⟩)] ++ saysPk t l := by simp [saysPk]
    rw [this, List.length_append, ih]; simp; omega
theorem talkPk_len {t : Talk} (hv : talkB t = true) : (talkPk t).length = 7 + 2 * (talkParts t false).length + 2 * (talkParts t true).length := by
  unfold talkPk
  rw [if_pos hv]
  simp only [List.length_append, saysPk_len, hello, bye, List.length_cons, List.length_nil]
  rw [sides_len t.all, talk_side hv, talk_side hv]
  omega
theorem talkAll_mem {t : Talk} (hv : talkB t = true) {x : Bool × Data} (h : x ∈ t.all) : x.2 ∈ talkParts t x.1 := by
  rw [← talk_side hv]
  unfold sideL
  exact List.mem_map.2 ⟨x, List.mem_filter.2 ⟨h, by simp⟩, rfl⟩
theorem talkAll_data {t : Talk} (hv : talkB t = true) {x : Bool × Data} (h : x ∈ t.all) : dataB x.2 = true := by
  obtain ⟨n, en, hn, hseq, _⟩ := talk_seq hv x.1
  exact hseq.ok _ (talkAll_mem hv h)
/-- Packets with one chunk. -/
theorem dataPut_ok {d : Data} (h : dataB d = true) : chunkB (dataPut d) = true := by
  have := (data_ok h).2.2.2
  unfold chunkB dataPut inB bit word
  cases d.last <;> cases d.first <;> cases d.loose <;> simp <;> omega
theorem initPut_ok (x : Init) (b : Bool) : chunkB (initPut x b) = true := by
  unfold chunkB initPut inB long word
  cases b <;> simp
theorem sackPut_ok (n : Int) : chunkB (sackPut ⟨n, []⟩) = true := by
  unfold chunkB sackPut inB word; simp
theorem kind_ok {k : Int} (h : 0 ≤ k ∧ k ≤ 255) : chunkB ⟨k, 0, []⟩ = true := by
  unfold chunkB inB; simp; omega
theorem talk_head {t : Talk} (hv : talkB t = true) : (1 ≤ t.fr ∧ t.fr ≤ 65535) ∧ (1 ≤ t.to ∧ t.to ≤ 65535) ∧ t.fr ≠ t.to ∧ (1 ≤ t.a.tag ∧ t.a.tag ≤ 4294967295) ∧ (1 ≤ t.b.tag ∧ t.b.tag ≤ 4294967295) := by
  simp only [talkB, talkHead, inB, initB, serialB, Bool.and_eq_true, decide_eq_true_eq, bne_iff_ne, Bool.not_eq_true', decide_eq_false_iff_not, beq_eq_false_iff_ne] at hv
  omega
theorem one_ok {t : Talk} (hv : talkB t = true) (b : Bool) {c : Chunk} (hc : chunkB c = true) : packB (onePk t b c) = true := by
  obtain ⟨h1, h2, h3, h4, h5⟩ := talk_head hv
  unfold packB onePk inB
  cases b <;> simp [hc] <;> omega
end Go.Cap
namespace Go.Cap
/-- The parts of the first says are the first parts. -/
theorem talkAll_app (z : Nat) (ta tb : Int) : ∀ (l1 l2 : List Say) (oa ob : List Data), talkAll z ta tb (l1 ++ l2) oa ob = talkAll z ta tb l1 oa ob ++ talkAll z ta tb l2 (oa ++ sideL false (talkAll z ta tb l1 oa ob)) (ob ++ sideL true (talkAll z ta tb l1 oa ob))
  | [], l2, oa, ob => by simp [talkAll, sideL]
  | s :: l, l2, oa, ob => by
    simp only [List.cons_append, talkAll]
    cases hb : s.byB
    · simp only [Bool.false_eq_true, if_false, sideL_app, sideL_same, sideL_other (show (false : Bool) ≠ true by decide), List.nil_append]
      rw [talkAll_app z ta tb l l2, List.append_assoc, List.append_assoc]
    · simp only [if_true, sideL_app, sideL_same, sideL_other (show (true : Bool) ≠ false by decide), List.nil_append]
      rw [talkAll_app z ta tb l l2, List.append_assoc, List.append_assoc]
def Talk.q (t : Talk) (i : Nat) : Nat := (talkAll t.size.toNat t.a.tsn t.b.tsn (t.says.take i) [] []).length
theorem talk_q {t : Talk} {i : Nat} (h : i < t.says.length) : t.q (i + 1) = t.q i + manyN t.says[i].text.length t.size.toNat ∧ ∀ k (hk : k < t.all.length), t.q i ≤ k → k < t.q (i + 1) → (t.all[k]).1 = t.says[i].byB := by
  have e1 : t.says.take (i + 1) = t.says.take i ++ [t.says[i]] := take_get h
  have hstep := talkAll_app t.size.toNat t.a.tsn t.b.tsn (t.says.take i) [t.says[i]] [] []
  rw [← e1] at hstep
  have hone : ∀ oa ob, ∃ ps : List Data, ps.length = manyN t.says[i].text.length t.size.toNat ∧ talkAll t.size.toNat t.a.tsn t.b.tsn [t.says[i]] oa ob = ps.map fun d => (t.says[i].byB, d) := fun oa ob => by
    simp only [talkAll]
    cases hb : t.says[i].byB
    · exact ⟨nextParts t.size.toNat t.a.tsn oa t.says[i], nextParts_len _ _ _ _, by simp⟩
    · exact ⟨nextParts t.size.toNat t.b.tsn ob t.says[i], nextParts_len _ _ _ _, by simp⟩
  obtain ⟨ps, hps, hpe⟩ := hone ([] ++ sideL false (talkAll t.size.toNat t.a.tsn t.b.tsn (t.says.take i) [] [])) ([] ++ sideL true (talkAll t.size.toNat t.a.tsn t.b.tsn (t.says.take i) [] []))
  rw [hpe] at hstep
  refine ⟨by unfold Talk.q; rw [hstep, List.length_append, List.length_map, hps], fun k hk h1 h2 => ?_⟩
  have hall : ∃ rest, t.all = talkAll t.size.toNat t.a.tsn t.b.tsn (t.says.take i) [] [] ++ (ps.map fun d => (t.says[i].byB, d)) ++ rest := by
    have := talkAll_app t.size.toNat t.a.tsn t.b.tsn (t.says.take (i + 1)) (t.says.drop (i + 1)) [] []
    rw [List.take_append_drop, hstep] at this
    exact ⟨_, this⟩
  obtain ⟨rest, hr⟩ := hall
  have hq : t.q i = (talkAll t.size.toNat t.a.tsn t.b.tsn (t.says.take i) [] []).length := rfl
  have hq2 : t.q (i + 1) = t.q i + ps.length := by unfold Talk.q; rw [hstep, List.length_append, List.length_map]
  have : t.all[k]? = some ((ps[k - t.q i]'(by omega)) |> fun d => (t.says[i].byB, d)) := by
    rw [hr, List.getElem?_append_left (by rw [List.length_append, List.length_map]; omega), List.getElem?_append_right (by omega), ← hq, List.getElem?_map, List.getElem?_eq_getElem (by omega)]
    rfl
  rw [List.getElem?_eq_getElem hk] at this
  rw [Option.some.inj this]
theorem talk_q_end (t : Talk) : t.q t.says.length = t.all.length := by unfold Talk.q Talk.all; rw [List.take_length]
theorem talk_q_zero (t : Talk) : t.q 0 = 0 := rfl
theorem talk_q_le {t : Talk} {i : Nat} (_ : i ≤ t.says.length) : t.q i ≤ t.all.length := by
  have := talkAll_app t.size.toNat t.a.tsn t.b.tsn (t.says.take i) (t.says.drop i) [] []
  rw [List.take_append_drop] at this
  unfold Talk.q Talk.all
  rw [this, List.length_append]; omega
theorem side_drop {l : List (Bool × Data)} {q : Nat} (h : q < l.length) (b : Bool) : sideL b (l.drop q) = if l[q].1 = b then l[q].2 :: sideL b (l.drop (q + 1)) else sideL b (l.drop (q + 1)) := by
  rw [List.drop_eq_getElem_cons h]
  unfold sideL
  rw [List.filter_cons]
  by_cases hb : l[q].1 = b
  · simp [hb]
  · simp [hb]
theorem saysPk_take {t : Talk} {l : List (Bool × Data)} {q : Nat} (h : q < l.length) : saysPk t (l.take (q + 1)) = saysPk t (l.take q) ++ [onePk t l[q].1 (dataPut l[q].2), onePk t (!l[q].1) (sackPut ⟨l[q].2.tsn, []⟩)] := by
  rw [take_get h]
  unfold saysPk
  rw [List.flatMap_append, List.flatMap_cons, List.flatMap_nil, List.append_nil]
theorem all_len {t : Talk} (hv : talkB t = true) : t.all.length ≤ 24 := by
  rw [sides_len, talk_side hv, talk_side hv]
  have h1 := talkParts_12 t false hv
  have h2 := talkParts_12 t true hv
  omega
end Go.Cap
namespace Go.Cap
theorem talkPk_cons {t : Talk} (hv : talkB t = true) : ∃ rest, talkPk t = ⟨t.fr, t.to, 0, [initPut t.a false]⟩ :: rest ∧ ∀ p ∈ rest, ∃ b c, p = onePk t b c ∧ chunkB c = true := by
  refine ⟨_, by unfold talkPk hello; rw [if_pos hv]; rfl, fun p hp => ?_⟩
  simp only [List.cons_append, List.nil_append, List.append_eq, List.mem_cons, List.mem_append, bye, List.not_mem_nil, or_false] at hp
  rcases hp with rfl | rfl | rfl | (hp | rfl | rfl | rfl)
  · exact ⟨true, _, rfl, initPut_ok _ _⟩
  · exact ⟨false, _, rfl, kind_ok (by omega)⟩
  · exact ⟨true, _, rfl, kind_ok (by omega)⟩
  · obtain ⟨x, hx, hp⟩ := List.mem_flatMap.1 hp
    simp only [List.mem_cons, List.not_mem_nil, or_false] at hp
    rcases hp with rfl | rfl
    · exact ⟨x.1, _, rfl, dataPut_ok (talkAll_data hv hx)⟩
    · exact ⟨!x.1, _, rfl, sackPut_ok _⟩
  · exact ⟨false, _, rfl, kind_ok (by omega)⟩
  · exact ⟨true, _, rfl, kind_ok (by omega)⟩
  · exact ⟨false, _, rfl, kind_ok (by omega)⟩
theorem talkPk_props {t : Talk} (hv : talkB t = true) {i : Nat} (hi : i < (talkPk t).length) : packB (talkPk t)[i] = true ∧ ((talkPk t)[i]).chunks.length = 1 ∧ ((talkPk t)[i]).tag = if i = 0 then 0 else if ((talkPk t)[i]).fr = t.fr then t.b.tag else t.a.tag := by
  obtain ⟨rest, hr, hall⟩ := talkPk_cons hv
  obtain ⟨h1, h2, h3, h4, h5⟩ := talk_head hv
  cases i with
  | zero =>
    simp only [hr, List.getElem_cons_zero, if_true]
    refine ⟨?_, by simp, by simp⟩
    unfold packB inB
    simp [initPut_ok]
    omega
  | succ i =>
    simp only [hr, List.getElem_cons_succ]
    have hil : i < rest.length := by rw [hr] at hi; simpa using hi
    obtain ⟨b, c, hp, hc⟩ := hall _ (List.getElem_mem hil)
    rw [hp]
    refine ⟨one_ok hv b hc, by cases b <;> rfl, ?_⟩
    rw [if_neg (by omega)]
    cases b
    · exact (if_pos rfl).symm
    · exact (if_neg fun e => h3 e.symm).symm
end Go.Cap

/- Plain facts: the bodies of chunks are read again. -/
namespace Go.Cap
open Go Go.Proofs
set_option linter.unusedSimpArgs false
set_option linter.unusedVariables false

theorem word_len (n : Int) : (word n).length = 2 := rfl
theorem long_len (n : Int) : (long n).length = 4 := rfl
end Go.Cap

/- Contracts: numbers as bytes; chunks of parts, inits and receipts, twice. -/
namespace Go.Cap
open Go Go.Proofs
set_option maxRecDepth 100000
set_option linter.unusedSimpArgs false
set_option linter.unusedVariables false
attribute [local irreducible] Call Run Spec Le

theorem wrap_u8 (x : Int) : IntKind.u8.wrap x = x % 256 := by
  simp only [IntKind.wrap, IntKind.bits, IntKind.signed]
  first | rfl | (simp; done) | omega
theorem shr8 (x : Int) : shiftR .i64 x 8 = x / 256 := by
  unfold shiftR
  rw [Int.fdiv_eq_ediv_of_nonneg _ (by decide)]; rfl
theorem shr16 (x : Int) : shiftR .i64 x 16 = x / 65536 := by
  unfold shiftR
  rw [Int.fdiv_eq_ediv_of_nonneg _ (by decide)]; rfl
theorem shr24 (x : Int) : shiftR .i64 x 24 = x / 16777216 := by
  unfold shiftR
  rw [Int.fdiv_eq_ediv_of_nonneg _ (by decide)]; rfl
theorem byteOf_u8 (x : Int) : byteOf [.n .u8 x] = u8 x := rfl
theorem wb {n : Int} (h : 0 ≤ n ∧ n < 65536) : [byteOf [.n .u8 (IntKind.u8.wrap (shiftR .i64 n 8))], byteOf [.n .u8 (IntKind.u8.wrap n)]] = word n := by
  simp only [byteOf_u8, wrap_u8, shr8, word]
  rw [Int.emod_eq_of_lt (a := n / 256) (by omega) (by omega)]
theorem wt {n : Int} (h : 0 ≤ n ∧ n < 65536) : [byteOf [.n .u8 (IntKind.u8.wrap (IntKind.i64.wrap (n.tdiv 256)))], byteOf [.n .u8 (IntKind.u8.wrap (n.tmod 256))]] = word n := by
  have h1 : n.tdiv 256 = n / 256 := Int.tdiv_eq_ediv_of_nonneg h.1
  have h2 : n.tmod 256 = n % 256 := Int.tmod_eq_emod_of_nonneg h.1
  simp only [byteOf_u8, wrap_u8, h1, h2, word]
  rw [wrap64 (by omega) (by omega), Int.emod_eq_of_lt (a := n / 256) (by omega) (by omega), Int.emod_emod_of_dvd _ (by decide)]
theorem lb {n : Int} (h : 0 ≤ n ∧ n < 4294967296) : [byteOf [.n .u8 (IntKind.u8.wrap (shiftR .i64 n 24))], byteOf [.n .u8 (IntKind.u8.wrap (shiftR .i64 n 16))], byteOf [.n .u8 (IntKind.u8.wrap (shiftR .i64 n 8))], byteOf [.n .u8 (IntKind.u8.wrap n)]] = long n := by
  simp only [byteOf_u8, wrap_u8, shr8, shr16, shr24, long, word, List.cons_append, List.nil_append]
  have e1 : n / 16777216 % 256 = n / 65536 / 256 := by omega
  have e2 : n / 65536 % 256 = n / 65536 % 256 := rfl
  have e3 : n / 256 % 256 = n % 65536 / 256 := by omega
  have e4 : n % 256 = n % 65536 % 256 := by omega
  rw [e1, e3, ← e4]
theorem s_WordPut (n : Int) (h : 0 ≤ n ∧ n < 65536) : Spec Try.prog 150 0 [] [.i n] (fun r _ _ _ => r = .tup [.st (word n), .bo true]) := by
  refine mk150 rfl fun c hP hm => ?_
  unfold pc150
  simp only [hm, go_sem, ↓reduceIte]
  repeat' first | refine And.intro ?_ ?_ | intro _
  all_goals first
    | omega
    | (rename_i hr; rcases hr with rfl | rfl <;> exact ⟨_, rfl⟩)
    | rw [wb h]
theorem s_l1Word (n : Int) (h : 0 ≤ n ∧ n < 65536) : Spec Try.prog 142 0 [] [.i n] (fun r _ _ _ => r = .st (word n)) := by
  refine mk142 rfl fun c hP hm => ?_
  unfold pc142
  simp only [hm, go_sem, ↓reduceIte]
  repeat' first | refine And.intro ?_ ?_ | intro _
  all_goals first
    | omega
    | (rename_i hr; rcases hr with rfl | rfl <;> exact ⟨_, rfl⟩)
    | rw [wt h]
theorem s_LongPut (n : Int) (h : 0 ≤ n ∧ n < 4294967296) : Spec Try.prog 98 0 [] [.i n] (fun r _ _ _ => r = .tup [.st (long n), .bo true]) := by
  refine mk98 rfl fun c hP hm => ?_
  unfold pc98
  simp only [hm, go_sem, ↓reduceIte]
  repeat' first | refine And.intro ?_ ?_ | intro _
  all_goals first
    | omega
    | (rename_i hr; rcases hr with rfl | rfl | rfl | rfl <;> exact ⟨_, rfl⟩)
    | rw [lb h]
theorem s_l1Long (n : Int) (h : 0 ≤ n ∧ n < 4294967296) : Spec Try.prog 152 0 [] [.i n] (fun r _ _ _ => r = .st (long n)) := by
  refine mk152 rfl fun c hP hm => ?_
  unfold pc152
  have h1 : n.tdiv 65536 = n / 65536 := Int.tdiv_eq_ediv_of_nonneg h.1
  have h2 : n.tmod 65536 = n % 65536 := Int.tmod_eq_emod_of_nonneg h.1
  have h3 : IntKind.i64.wrap (n / 65536) = n / 65536 := wrap64 (by omega) (by omega)
  simp only [h1, h2, h3, hm, go_sem, ↓reduceIte]
  refine call_pure (hP ▸ s_l1Word (n / 65536) (by omega)) rfl rfl ?_
  simp only [h1, h2, h3, hm, go_sem, ↓reduceIte]
  refine call_pure (hP ▸ s_l1Word (n % 65536) (by omega)) rfl rfl ?_
  simp only [word_len, hm, go_sem, ↓reduceIte]
  first | done | rfl | exact ⟨by decide, rfl⟩
theorem s_words (l : List Int) (hl : l.length ≤ 1000) (h : ∀ n ∈ l, 0 ≤ n ∧ n < 65536) : Spec Try.prog 99 0 [] [.r (.ro none (l.map intRow))] (fun r _ _ _ => r = .st (l.flatMap word)) := by
  refine mk99 rfl fun c hP hm => ?_
  unfold pc99
  simp only [hm, go_sem, ↓reduceIte]
  intro _
  have hlen : ∀ l : List Int, (l.flatMap word).length = 2 * l.length := by
    intro l
    induction l with
    | nil => rfl
    | cons x l ih => rw [List.flatMap_cons, List.length_append, ih, word_len, List.length_cons]; omega
  refine lp_wpc (α := Nat) (fun i => ⟨[(3, .st ((l.take i).flatMap word)), (8, .r (.ro none (l.map intRow))), (9, .i l.length), (10, .i i)], [], 0, []⟩) (fun i => i ≤ l.length) (fun i => l.length - i) 0 (Nat.zero_le _) (by (refine le_ev [] ?_; simp only [hm, go_sem, ↓reduceIte]; first | done | rfl | exact ⟨rfl, rfl⟩)) ?_
  intro i hi
  unfold pc99l0
  rcases Nat.lt_or_ge i l.length with hil | hil
  · have hw : IntKind.i64.wrap ((i : Int) + 1) = ((i + 1 : Nat) : Int) := by rw [wrap64 (by omega) (by omega)]; omega
    have hg := getD_map (f := intRow) hil
    have htk : (l.take (i + 1)).flatMap word = (l.take i).flatMap word ++ word l[i] := by rw [take_get hil, List.flatMap_append]; simp
    have hlt := hlen (l.take i)
    rw [List.length_take] at hlt
    have hr := h _ (List.getElem_mem hil)
    generalize l[i] = n at hg htk hr
    simp only [hw, Int.toNat_natCast, hg, intRow, hm, go_sem, ↓reduceIte]
    repeat' first | refine And.intro ?_ ?_ | intro _ | (refine call_data (hP ▸ s_WordPut n hr) rfl rfl ?_; simp only [hw, word_len, Int.toNat_natCast, hg, intRow, hm, go_sem, ↓reduceIte])
    all_goals first
      | omega
      | rfl
      | (refine ⟨i + 1, hil, by omega, ?_⟩; rw [← htk]; (refine le_ev [] ?_; simp only [hm, go_sem, ↓reduceIte]; first | done | rfl | exact ⟨rfl, rfl⟩))
  · have : i = l.length := by omega
    subst this
    simp only [List.take_length, hm, go_sem, ↓reduceIte]
    repeat' first | refine And.intro ?_ ?_ | intro _
    all_goals first
      | omega
      | rfl
theorem s_l12Bit (b : Bool) (n : Int) : Spec Try.prog 141 0 [] [.bo b, .i n] (fun r _ _ _ => r = .i (bit b n)) := by
  refine mk141 rfl fun c hP hm => ?_
  unfold pc141 bit
  cases b <;> simp only [hm, go_sem, ↓reduceIte]
theorem w01 : IntKind.i64.wrap (0 + 1) = 1 := by decide
theorem w02 : IntKind.i64.wrap (0 + 2) = 2 := by decide
theorem w12 : IntKind.i64.wrap (1 + 2) = 3 := by decide
theorem w04 : IntKind.i64.wrap (0 + 4) = 4 := by decide
theorem w14 : IntKind.i64.wrap (1 + 4) = 5 := by decide
theorem w24 : IntKind.i64.wrap (2 + 4) = 6 := by decide
theorem w34 : IntKind.i64.wrap (3 + 4) = 7 := by decide
theorem s_implDataPut (d : Data) (h : dataB d = true) : Spec Try.prog 88 0 [] [d.av] (fun r _ _ _ => r = .tup [(dataPut d).av, .bo true]) := by
  obtain ⟨h1, h2, h3, h4⟩ := data_ok h
  refine mk88 rfl fun c hP hm => ?_
  unfold pc88 Data.av
  simp only [hm, go_sem, ↓reduceIte]
  refine call_pure (hP ▸ s_dataOk d (by omega)) rfl rfl ?_
  rw [h]
  have hws := s_words [d.tsn, d.stream, d.ssn] (by simp) (by simp only [List.mem_cons, List.not_mem_nil, or_false]; rintro n (rfl | rfl | rfl) <;> omega)
  have e1 : ([d.tsn, d.stream, d.ssn].flatMap word) = word d.tsn ++ word d.stream ++ word d.ssn := by simp
  rw [e1] at hws
  cases hf : d.first <;> cases hl : d.last <;> cases hx : d.loose
  all_goals
    simp only [w01, w02, w12, w04, w14, w24, w34, hm, go_sem, ↓reduceIte]
    refine call_flat (hP ▸ hws) rfl (.cons (Vw.full rfl (by simp)) .nil) ?_
    simp only [List.length_append, word_len, hm, go_sem, ↓reduceIte]
    repeat' first | refine And.intro ?_ ?_ | intro _
    all_goals first
      | omega
      | rfl
      | (simp only [dataPut, Chunk.av, bit, hf, hl, hx, Bool.false_eq_true, if_false, if_true]; rfl)
theorem s_specDataPut (d : Data) (h : dataB d = true) : Spec Try.prog 78 0 [] [d.av] (fun r _ _ _ => r = .tup [(dataPut d).av, .bo true]) := by
  obtain ⟨h1, h2, h3, h4⟩ := data_ok h
  refine mk78 rfl fun c hP hm => ?_
  unfold pc78 Data.av
  simp only [hm, go_sem, ↓reduceIte]
  refine call_pure (hP ▸ s_l12Data d (by omega)) rfl rfl ?_
  rw [h]
  have hb : ∀ (b : Bool) (n : Int), n = 1 ∨ n = 2 ∨ n = 4 → 0 ≤ bit b n ∧ bit b n ≤ n := fun b n hn => by cases b <;> simp [bit] <;> omega
  have q1 := hb d.last 1 (by simp)
  have q2 := hb d.first 2 (by simp)
  have q3 := hb d.loose 4 (by simp)
  have e1 : IntKind.i64.wrap (bit d.last 1 + bit d.first 2) = bit d.last 1 + bit d.first 2 := wrap64 (by omega) (by omega)
  have e2 : IntKind.i64.wrap (bit d.last 1 + bit d.first 2 + bit d.loose 4) = bit d.last 1 + bit d.first 2 + bit d.loose 4 := wrap64 (by omega) (by omega)
  simp only [e1, e2, hm, go_sem, ↓reduceIte]
  repeat' first | refine And.intro ?_ ?_ | intro _ | (refine call_pure (hP ▸ s_l12Bit d.last 1) rfl rfl ?_; simp only [e1, e2, hm, go_sem, ↓reduceIte]) | (refine call_pure (hP ▸ s_l12Bit d.first 2) rfl rfl ?_; simp only [e1, e2, hm, go_sem, ↓reduceIte]) | (refine call_pure (hP ▸ s_l12Bit d.loose 4) rfl rfl ?_; simp only [e1, e2, hm, go_sem, ↓reduceIte]) | (refine call_pure (hP ▸ s_l1Word d.tsn h1) rfl rfl ?_; simp only [word_len, List.length_append, hm, go_sem, ↓reduceIte]) | (refine call_pure (hP ▸ s_l1Word d.stream h2) rfl rfl ?_; simp only [word_len, List.length_append, hm, go_sem, ↓reduceIte]) | (refine call_pure (hP ▸ s_l1Word d.ssn h3) rfl rfl ?_; simp only [word_len, List.length_append, hm, go_sem, ↓reduceIte])
  all_goals first
    | omega
    | rfl
theorem s_implInitPut (x : Init) (b : Bool) (h : initB x = true) : Spec Try.prog 86 0 [] [x.av, .bo b] (fun r _ _ _ => r = .tup [(initPut x b).av, .bo true]) := by
  have h' := h
  simp only [initB, serialB, Bool.and_eq_true, decide_eq_true_eq] at h'
  refine mk86 rfl fun c hP hm => ?_
  unfold pc86 Init.av
  simp only [hm, go_sem, ↓reduceIte]
  refine call_pure (hP ▸ s_initOk x) rfl rfl ?_
  rw [h]
  have hws := s_words [x.window, x.streams, x.tsn] (by simp) (by simp only [List.mem_cons, List.not_mem_nil, or_false]; rintro n (rfl | rfl | rfl) <;> omega)
  have e1 : ([x.window, x.streams, x.tsn].flatMap word) = word x.window ++ word x.streams ++ word x.tsn := by simp
  rw [e1] at hws
  cases b
  all_goals
    simp only [hm, go_sem, ↓reduceIte]
    refine call_data (hP ▸ s_LongPut x.tag (by omega)) rfl rfl ?_
    simp only [hm, go_sem, ↓reduceIte]
    refine call_flat (hP ▸ hws) rfl (.cons (Vw.full rfl (by simp)) .nil) ?_
    simp only [List.length_append, word_len, long_len, hm, go_sem, ↓reduceIte]
    repeat' first | refine And.intro ?_ ?_ | intro _
    all_goals first
      | omega
      | rfl
      | (simp only [initPut, Chunk.av, List.append_assoc, Bool.false_eq_true, if_false, if_true]; rfl)
theorem s_specInitPut (x : Init) (b : Bool) (h : initB x = true) : Spec Try.prog 137 0 [] [x.av, .bo b] (fun r _ _ _ => r = .tup [(initPut x b).av, .bo true]) := by
  have h' := h
  simp only [initB, serialB, Bool.and_eq_true, decide_eq_true_eq] at h'
  refine mk137 rfl fun c hP hm => ?_
  unfold pc137 Init.av
  simp only [hm, go_sem, ↓reduceIte]
  refine call_pure (hP ▸ s_l12Init x) rfl rfl ?_
  rw [h]
  simp only [hm, go_sem, ↓reduceIte]
  repeat' first | refine And.intro ?_ ?_ | intro _ | (refine call_pure (hP ▸ s_l1Long x.tag (by omega)) rfl rfl ?_; simp only [word_len, long_len, List.length_append, hm, go_sem, ↓reduceIte]) | (refine call_pure (hP ▸ s_l1Word x.window (by omega)) rfl rfl ?_; simp only [word_len, long_len, List.length_append, hm, go_sem, ↓reduceIte]) | (refine call_pure (hP ▸ s_l1Word x.streams (by omega)) rfl rfl ?_; simp only [word_len, long_len, List.length_append, hm, go_sem, ↓reduceIte]) | (refine call_pure (hP ▸ s_l1Word x.tsn (by omega)) rfl rfl ?_; simp only [word_len, long_len, List.length_append, hm, go_sem, ↓reduceIte])
  all_goals first
    | omega
    | rfl
    | (subst_vars; rfl)
def Sack.ro (s : Sack) : AV := .agg [.i s.cum, .r (.ro none (s.gaps.map Gap.row))]
theorem gapsB_drop {l : List Gap} {i : Nat} (h : i < l.length) (last : Int) : gapsB last (l.drop i) = (decide (last + 2 ≤ l[i].fr ∧ l[i].fr ≤ l[i].to ∧ l[i].to ≤ 16) && gapsB l[i].to (l.drop (i + 1))) := by
  rw [List.drop_eq_getElem_cons h]; rfl
theorem s_sackOk (s : Sack) (hl : s.gaps.length ≤ 2000000) : Spec Try.prog 145 0 [] [s.ro] (fun r _ _ _ => r = .bo (sackB s)) := by
  refine mr145 rfl fun c hP hm => ?_
  unfold pc145 Sack.ro
  refine run_seq (run_wpc _ _ _ _ _ ?_)
  simp only [hm, go_sem, ↓reduceIte]
  refine run_seq (run_wpc _ _ _ _ _ ?_)
  simp only [hm, go_sem, ↓reduceIte]
  repeat' first | refine And.intro ?_ ?_ | intro _ | (refine c_serialOk hP ?_; simp only [hm, go_sem, ↓reduceIte])
  all_goals first
    | (apply bo_inj; simp [sackB, *]; done)
    | (apply bo_inj; simp [sackB, *]; omega)
    | skip
  rename_i hser _ h8
  refine run_wpc _ _ _ _ _ ?_
  simp only [hm, go_sem, ↓reduceIte]
  intro _
  refine lp_wpc (α := Nat × Int) (fun y => ⟨[(3, .i (y.2 + 2)), (17, .r (.ro none (s.gaps.map Gap.row))), (18, .i s.gaps.length), (19, .i y.1)], [], 0, []⟩)
    (fun y => y.1 ≤ s.gaps.length ∧ 0 ≤ y.2 ∧ y.2 ≤ 16 ∧ gapsB y.2 (s.gaps.drop y.1) = gapsB 0 s.gaps) (fun y => s.gaps.length - y.1) (0, 0) ⟨Nat.zero_le _, by simp, by simp, rfl⟩ (by (refine le_ev [] ?_; simp only [hm, go_sem, ↓reduceIte]; first | done | rfl | exact ⟨rfl, rfl⟩)) ?_
  rintro ⟨i, last⟩ ⟨hi, hb0, hb1, hI⟩
  simp only at hi hb0 hb1 hI
  unfold pc145l0
  rcases Nat.lt_or_ge i s.gaps.length with hil | hil
  · have hw : IntKind.i64.wrap ((i : Int) + 1) = ((i + 1 : Nat) : Int) := by rw [wrap64 (by omega) (by omega)]; omega
    rw [gapsB_drop hil] at hI
    have hg := getD_map (f := Gap.row) hil
    generalize s.gaps[i] = g at hI hg
    have hok : gapsB 0 s.gaps = false → AV.r (RV.b false) = AV.bo (sackB s) := fun h => by simp [sackB, h]
    simp only [hw, Int.toNat_natCast, hg, Gap.row, hm, go_sem, ↓reduceIte]
    repeat' first | refine And.intro ?_ ?_ | intro _
    all_goals first
      | omega
      | rfl
      | (refine hok ?_; rw [← hI, decide_eq_false (by omega)]; rfl)
      | (rw [decide_eq_true (by omega), Bool.true_and] at hI
         refine ⟨(i + 1, g.to), ⟨hil, ?_, ?_, hI⟩, ?_, ?_⟩
         · simp only; omega
         · simp only; omega
         · simp only; omega
         · rw [wrap64 (x := g.to + 2) (by omega) (by omega)]
           (refine le_ev [] ?_; simp only [hm, go_sem, ↓reduceIte]; first | done | rfl | exact ⟨rfl, rfl⟩))
  · have : i = s.gaps.length := by omega
    subst this
    rw [List.drop_eq_nil_of_le (Nat.le_refl _)] at hI
    simp only [hm, go_sem, ↓reduceIte]
    repeat' first | refine And.intro ?_ ?_ | intro _
    all_goals first
      | omega
      | (apply bo_inj; simp [sackB, hser, ← hI, gapsB]; omega)
theorem s_l12Sack (s : Sack) (hl : s.gaps.length ≤ 2000000) : Spec Try.prog 143 0 [] [s.ro] (fun r _ _ _ => r = .bo (sackB s)) := by
  refine mr143 rfl fun c hP hm => ?_
  unfold pc143 Sack.ro
  refine run_seq (run_wpc _ _ _ _ _ ?_)
  simp only [hm, go_sem, ↓reduceIte]
  refine run_seq (run_wpc _ _ _ _ _ ?_)
  simp only [hm, go_sem, ↓reduceIte]
  refine run_seq (run_wpc _ _ _ _ _ ?_)
  simp only [hm, go_sem, ↓reduceIte]
  refine run_exit 0 (fun t0 => t0 = ⟨[(1, .ptr 0 0 0)], [(0, .var [.i s.cum, .r (.ro none (s.gaps.map Gap.row))])], 1, []⟩ ∧ gapsB 0 s.gaps = true) ?_ ?_
  · refine lp_wpc (α := Nat × Int) (fun y => ⟨[(1, .ptr 0 0 0), (3, .i y.2), (4, .i y.1)], [(0, .var [.i s.cum, .r (.ro none (s.gaps.map Gap.row))])], 1, []⟩)
      (fun y => y.1 ≤ s.gaps.length ∧ 0 ≤ y.2 ∧ y.2 ≤ 16 ∧ gapsB y.2 (s.gaps.drop y.1) = gapsB 0 s.gaps) (fun y => s.gaps.length - y.1) (0, 0) ⟨Nat.zero_le _, by simp, by simp, rfl⟩ (by (refine le_ev [] ?_; simp only [hm, go_sem, ↓reduceIte]; first | done | rfl | exact ⟨rfl, rfl⟩)) ?_
    rintro ⟨i, last⟩ ⟨hi, hb0, hb1, hI⟩
    simp only at hi hb0 hb1 hI
    unfold pc143l0
    rcases Nat.lt_or_ge i s.gaps.length with hil | hil
    · have hw : IntKind.i64.wrap ((i : Int) + 1) = ((i + 1 : Nat) : Int) := by rw [wrap64 (by omega) (by omega)]; omega
      have hw2 : IntKind.i64.wrap (last + 2) = last + 2 := wrap64 (by omega) (by omega)
      rw [gapsB_drop hil] at hI
      have hg := getD_map (f := Gap.row) hil
      generalize s.gaps[i] = g at hI hg
      have hok : gapsB 0 s.gaps = false → AV.r (RV.b false) = AV.bo (sackB s) := fun h => by simp [sackB, h]
      simp only [hw, hw2, Int.toNat_natCast, hg, Gap.row, hm, go_sem, ↓reduceIte]
      repeat' first | refine And.intro ?_ ?_ | intro _
      all_goals first
        | omega
        | rfl
        | (refine hok ?_; rw [← hI, decide_eq_false (by omega)]; rfl)
        | (rw [decide_eq_true (by omega), Bool.true_and] at hI
           refine ⟨(i + 1, g.to), ⟨hil, ?_, ?_, hI⟩, ?_, ?_⟩
           · simp only; omega
           · simp only; omega
           · simp only; omega
           · (refine le_ev [] ?_; simp only [hm, go_sem, ↓reduceIte]; first | done | rfl | exact ⟨rfl, rfl⟩))
    · have : i = s.gaps.length := by omega
      subst this
      rw [List.drop_eq_nil_of_le (Nat.le_refl _)] at hI
      simp only [hm, go_sem, ↓reduceIte]
      repeat' first | refine And.intro ?_ ?_ | intro _
      all_goals first
        | omega
        | (refine ⟨_, ⟨rfl, hI.symm⟩, ?_⟩; (refine le_ev [] ?_; simp only [hm, go_sem, ↓reduceIte]; first | done | rfl | exact ⟨rfl, rfl⟩))
  rintro t0 ⟨rfl, hG⟩
  refine run_wpc _ _ _ _ _ ?_
  simp only [hm, go_sem, ↓reduceIte]
  repeat' first | refine And.intro ?_ ?_ | intro _ | (refine c_l3Ok hP ?_; simp only [hm, go_sem, ↓reduceIte])
  all_goals first
    | (apply bo_inj; simp [sackB, *]; done)
    | (apply bo_inj; rw [Bool.eq_iff_iff]; simp [sackB, *]; omega)
theorem s_implSackPut0 (n : Int) (h : 0 ≤ n ∧ n < 65536) : Spec Try.prog 89 0 [] [.agg [.i n, .r .nil]] (fun r _ _ _ => r = .tup [(sackPut ⟨n, []⟩).av, .bo true]) := by
  have hs : sackB ⟨n, []⟩ = true := by simp [sackB, serialB, gapsB, h]
  refine mk89 rfl fun c hP hm => ?_
  unfold pc89
  simp only [hm, go_sem, ↓reduceIte]
  refine call_flat (hP ▸ s_sackOk ⟨n, []⟩ (by simp)) rfl (.cons (vw_agg (.cons (vw_self _ _ rfl) (.cons Vw.nil .nil))) .nil) ?_
  simp only [hs, hm, go_sem, ↓reduceIte]
  have hws := s_words [n] (by simp) (by simpa using h)
  have e1 : ([n].flatMap word) = word n := by simp
  rw [e1] at hws
  refine call_flat (hP ▸ hws) rfl (.cons (Vw.full rfl (by simp)) .nil) ?_
  simp only [hm, go_sem, ↓reduceIte]
  refine lp_wpc (α := Unit) (fun _ => ⟨[(2, .ptr 0 0 0), (4, .st (word n)), (16, .r .nil), (17, .i 0), (18, .i 0)], [(0, .var [.i 0, .i 0, .st []])], 1, []⟩) (fun _ => True) (fun _ => 0) () trivial (by (refine le_ev [(0, 1)] ?_; simp only [hm, go_sem, ↓reduceIte]; first | done | rfl | exact ⟨rfl, rfl⟩)) ?_
  intro _ _
  unfold pc89l0
  simp only [hm, go_sem, ↓reduceIte]
  repeat' first | refine And.intro ?_ ?_ | intro _
  all_goals first
    | omega
    | (simp [sackPut, Chunk.av]; done)
theorem s_specSackPut0 (n : Int) (h : 0 ≤ n ∧ n < 65536) : Spec Try.prog 79 0 [] [.agg [.i n, .r .nil]] (fun r _ _ _ => r = .tup [(sackPut ⟨n, []⟩).av, .bo true]) := by
  have hs : sackB ⟨n, []⟩ = true := by simp [sackB, serialB, gapsB, h]
  refine mk79 rfl fun c hP hm => ?_
  unfold pc79
  simp only [hm, go_sem, ↓reduceIte]
  refine call_flat (hP ▸ s_l12Sack ⟨n, []⟩ (by simp)) rfl (.cons (vw_agg (.cons (vw_self _ _ rfl) (.cons Vw.nil .nil))) .nil) ?_
  simp only [hs, hm, go_sem, ↓reduceIte]
  refine call_pure (hP ▸ s_l1Word n h) rfl rfl ?_
  simp only [hm, go_sem, ↓reduceIte]
  refine lp_wpc (α := Unit) (fun _ => ⟨[(1, .ptr 0 0 0), (2, .ptr 1 0 0), (4, .st (word n)), (5, .i 0)], [(0, .var [.i n, .r .nil]), (1, .var [.i 0, .i 0, .st []])], 2, []⟩) (fun _ => True) (fun _ => 0) () trivial (by (refine le_ev [] ?_; simp only [hm, go_sem, ↓reduceIte]; first | done | rfl | exact ⟨rfl, rfl⟩)) ?_
  intro _ _
  unfold pc79l0
  simp only [hm, go_sem, ↓reduceIte]
  repeat' first | refine And.intro ?_ ?_ | intro _
  all_goals first
    | omega
    | (simp [sackPut, Chunk.av]; done)
end Go.Cap

/- Contracts: marks that a law leaves in what the program returned. -/
namespace Go.Cap
open Go Go.Proofs
set_option maxRecDepth 100000
set_option linter.unusedSimpArgs false
set_option linter.unusedVariables false
attribute [local irreducible] Call Run Spec Le

/-- The digits of a number, ahead of a text. -/
def digits (n : Nat) (acc : List UInt8) : List UInt8 := if h : n = 0 then acc else digits (n / 10) (UInt8.ofNat (48 + n % 10) :: acc)
termination_by n
decreasing_by omega
theorem digits_zero (acc : List UInt8) : digits 0 acc = acc := by rw [digits]; rfl
theorem digits_pos {n : Nat} (h : n ≠ 0) (acc : List UInt8) : digits n acc = digits (n / 10) (UInt8.ofNat (48 + n % 10) :: acc) := by rw [digits, dif_neg h]
theorem digits_len (n : Nat) : ∀ acc, (digits n acc).length ≤ n + acc.length := by
  induction n using Nat.strongRecOn with
  | _ n ih =>
    intro acc
    by_cases h : n = 0
    · subst h; rw [digits_zero]; omega
    · rw [digits_pos h]
      refine Nat.le_trans (ih (n / 10) (by omega) _) ?_
      rw [List.length_cons]; omega
def markT (n : Int) : List UInt8 := if n ≤ 0 then [109, 48] else 109 :: digits n.toNat []
theorem tmod_nat (a b : Nat) : ((a : Int).tmod (b : Int)) = ((a % b : Nat) : Int) := rfl
theorem tdiv_nat (a b : Nat) : ((a : Int).tdiv (b : Int)) = ((a / b : Nat) : Int) := rfl
theorem s_markText (n : Int) (hn : n ≤ 1000000000) : Spec Try.prog 133 0 [] [.i n] (fun r _ _ _ => r = .st (markT n)) := by
  refine mk133 rfl fun c hP hm => ?_
  unfold pc133 markT
  simp only [go_sem, ↓reduceIte]
  refine ⟨fun h => ?_, fun h => ?_⟩
  · rw [if_pos h]
  · rw [if_neg (by omega)]
    obtain ⟨k, rfl⟩ := Int.eq_ofNat_of_zero_le (a := n) (by omega)
    refine run_exit 0 (fun t0 => t0 = ⟨[(3, .st (digits k []))], [], 0, []⟩) ?_ (fun t0 h => by rw [h]; simp only [go_sem, ↓reduceIte]; have := digits_len k []; simp only [List.length_nil] at this; exact ⟨by omega, by rw [Int.toNat_natCast]⟩)
    refine lp_wpc (α := Nat × List UInt8) (fun y => ⟨[(0, .i y.1), (3, .st y.2)], [], 0, []⟩) (fun y => y.2.length + y.1 ≤ k ∧ digits y.1 y.2 = digits k []) (fun y => y.1) (k, []) ⟨by simp, rfl⟩ (le_eq (by simp)) ?_
    rintro ⟨j, acc⟩ ⟨h1, h2⟩
    unfold pc133l0
    simp only at h1 h2
    simp only [go_sem, ↓reduceIte]
    have e10 : (10 : Int) = ((10 : Nat) : Int) := rfl
    rw [e10, tmod_nat, tdiv_nat]
    rw [wrap64 (x := 48 + ((j % 10 : Nat) : Int)) (by omega) (by omega), wrap64 (x := ((j / 10 : Nat) : Int)) (by omega) (by omega), wrapU8 (by omega) (by omega)]
    refine ⟨fun hlt => ⟨?_, by omega, (j / 10, UInt8.ofNat (48 + j % 10) :: acc), ⟨?_, ?_⟩, ?_, ?_⟩, fun hge => ?_⟩
    · rintro r rfl; exact ⟨_, rfl⟩
    · simp only [List.length_cons]; omega
    · rw [← h2, digits_pos (n := j) (by omega)]
    · simp only; omega
    · have eb : byteOf [.n .u8 (48 + ((j % 10 : Nat) : Int))] = UInt8.ofNat (48 + j % 10) := by
        show UInt8.ofNat (48 + ((j % 10 : Nat) : Int)).toNat = _
        congr 1
      rw [eb]
      exact le_ev [] (by simp only [hm, go_sem, ↓reduceIte])
    · have : j = 0 := by omega
      subst this
      rw [digits_zero] at h2
      rw [← h2]
      exact ⟨_, rfl, le_ev [] (by simp only [hm, go_sem, ↓reduceIte])⟩
/-- Marked rows. -/
def div3 (n : Int) : Bool := n.tmod 3 == 0
def markSay (n : Int) : Say := ⟨div3 n, n + 1, div3 (n + 2), markT (n + 3)⟩
def marks {α : Type} (f : Int → α) (w : Int) (k : Nat) (n : Int) : List α := (List.range k).map fun (i : Nat) => f (n + w * (i : Int))
theorem marks_len {α : Type} (f : Int → α) (w : Int) (k : Nat) (n : Int) : (marks f w k n).length = k := by simp [marks]
theorem marks_succ {α : Type} (f : Int → α) (w : Int) (k : Nat) (n : Int) : marks f w (k + 1) n = marks f w k n ++ [f (n + w * k)] := by simp [marks, List.range_succ]
theorem marks_get {α : Type} (f : Int → α) (w : Int) {k i : Nat} (n : Int) (h : i < k) : (marks f w k n)[i]? = some (f (n + w * i)) := by simp [marks, h]
theorem s_markSayS (l : List Say) (n : Int) (hn : 0 ≤ n ∧ n ≤ 1000) (hl : l.length ≤ 1048576) : Spec Try.prog 92 1 [(0, .row 4 (l.map Say.row))] [.sl 0 0 l.length, .i n] (Named fun r B => r = .i (n + 4 * l.length) ∧ B = .row 4 ((marks markSay 4 l.length n).map Say.row)) := by
  refine Spec.named ?_
  refine mk92 rfl fun c hP hm => ?_
  unfold pc92
  simp only [go_sem, ↓reduceIte]
  refine run_exit 0 (fun t0 => t0 = ⟨[(1, .i (n + 4 * l.length))], [(0, .row 4 ((marks markSay 4 l.length n).map Say.row))], 1, []⟩) ?_ (fun t0 h => by rw [h]; simp only [go_sem, ↓reduceIte]; exact ⟨_, rfl, rfl, rfl⟩)
  refine lp_wpc (α := Nat) (fun i => ⟨[(0, .sl 0 0 l.length), (1, .i (n + 4 * i)), (5, .i i)], [(0, .row 4 ((marks markSay 4 i n).map Say.row ++ (l.drop i).map Say.row))], 1, []⟩) (fun i => i ≤ l.length) (fun i => l.length - i) 0 (Nat.zero_le _) (le_eq (by simp [marks])) ?_
  intro i hi
  unfold pc92l0
  rcases Nat.lt_or_ge i l.length with hil | hil
  · have hM : ((marks markSay 4 i n).map Say.row).length = i := by rw [List.length_map, marks_len]
    have hA := congrArg (List.map Say.row) (marks_succ markSay 4 i n)
    rw [List.map_append, List.map_cons, List.map_nil] at hA
    rw [mid_drop hil]
    generalize (marks markSay 4 i n).map Say.row = A at hM hA
    have hBl : ((l.drop (i + 1)).map Say.row).length = l.length - (i + 1) := by simp
    generalize hB : (l.drop (i + 1)).map Say.row = B at hBl
    simp only [Int.toNat_natCast, mid_get hM, mid_set hM, mid_len, Say.row, go_sem, ↓reduceIte]
    simp (disch := omega) only [wrap64]
    intro _
    refine ⟨fun hlt => ?_, fun hge => absurd hge (by omega)⟩
    refine ⟨⟨by omega, by omega⟩, by omega, ⟨by omega, by omega⟩, by omega, ⟨by omega, by omega⟩, by omega, ?_⟩
    refine call_pure (hP ▸ s_markText _ (by omega)) rfl rfl ?_
    simp only [Int.toNat_natCast, mid_get hM, mid_set hM, mid_len, go_sem, ↓reduceIte]
    simp (disch := omega) only [wrap64]
    refine ⟨⟨by omega, by omega⟩, by omega, i + 1, hil, by omega, le_ev [] ?_⟩
    rw [hA, hB]
    simp only [hm, markSay, div3, Say.row, List.append_assoc, Int.natCast_add, Int.mul_add, Int.add_assoc, Int.reduceAdd, go_sem, ↓reduceIte]
    rfl
  · have : i = l.length := by omega
    subst this
    simp only [go_sem, ↓reduceIte]
    exact fun _ => ⟨_, rfl, le_ev [] (by simp only [hm, List.drop_length, go_sem, ↓reduceIte])⟩

theorem s_markTalk (t : Talk) (n : Int) (hn : 0 ≤ n ∧ n ≤ 1000) (hl : t.says.length ≤ 1048576) : Spec Try.prog 40 1 [(0, .row 4 (t.says.map Say.row))] [t.av (.sl 0 0 t.says.length), .i n] (Named fun r B => r = .i (n + 4 * t.says.length) ∧ B = .row 4 ((marks markSay 4 t.says.length n).map Say.row)) := by
  refine Spec.named ?_
  refine mk40 rfl fun c hP hm => ?_
  unfold pc40 Talk.av
  simp only [go_sem, ↓reduceIte]
  refine call_named 0 (hP ▸ s_markSayS t.says n hn hl) (by rfl) rfl (by rfl) ?_ ?_
  · rintro r B ⟨rfl, rfl⟩; exact ⟨rfl, rfl⟩
  · rintro r B ⟨rfl, rfl⟩
    simp only [go_sem, ↓reduceIte]
    exact ⟨_, rfl, rfl, rfl⟩
end Go.Cap

/- Contracts: drawn texts and parts. -/
namespace Go.Cap
open Go Go.Proofs
set_option maxRecDepth 100000
set_option linter.unusedSimpArgs false
set_option linter.unusedVariables false
attribute [local irreducible] Call Run Spec Le

@[go_sem] theorem frzPH_rd (b n0 j : Nat) (code : List UInt8) (p : Int) (l : List (Nat × Blk)) : frzPH b n0 ((j, rdB code p) :: l) = (True ∧ frzPH b n0 l) := by
  simp only [rdB, frzPH, frzPB, frzP.frzPL, frzP, and_self]
@[go_sem] theorem frzH_rd (b : Nat) (L : List (List RV)) (j : Nat) (code : List UInt8) (p : Int) (l : List (Nat × Blk)) : frzH b L ((j, rdB code p) :: l) = (j, rdB code p) :: frzH b L l := (rfl)
end Go.Cap

/- Plain facts on assemblies: validity, what is told, what is left. -/
namespace Go.Cap
open Go Go.Proofs
set_option linter.unusedSimpArgs false
set_option linter.unusedVariables false

theorem takeOut_nlen (a : Asm) (p : List Nat) : (takeOut a p).next.length = a.next.length := by unfold takeOut; simp only; split <;> simp
/-- Settling, step by step. -/
inductive Stl : Asm → List Msg → Asm → List Msg → Prop
  | stop (a : Asm) (ms : List Msg) : due a = none → Stl a ms a ms
  | step (a : Asm) (ms : List Msg) (p : List Nat) (a' : Asm) (ms' : List Msg) : AsmOk a → due a = some p → Stl (takeOut a p) (ms ++ [msgOf a p]) a' ms' → Stl a ms a' ms'
end Go.Cap

/- Plain facts on runs of assemblies: prefixes, numbers of messages. -/
namespace Go.Cap
open Go Go.Proofs
set_option linter.unusedSimpArgs false
set_option linter.unusedVariables false

theorem Stl.streams {a a' : Asm} {ms ms' : List Msg} (h : Stl a ms a' ms') : (∀ m ∈ ms, m.stream < a.next.length) → ∀ m ∈ ms', m.stream < a.next.length := by
  induction h with
  | stop a ms _ => exact fun h => h
  | step a ms p a' ms' ok hd _ ih =>
    intro h
    have hdo := due_ok ok hd
    rw [takeOut_nlen] at ih
    refine ih fun m hm => ?_
    rcases List.mem_append.1 hm with hm | hm
    · exact h m hm
    · simp only [List.mem_singleton] at hm
      subst hm
      obtain ⟨k0, pt, hp0⟩ : ∃ k0 pt, p = k0 :: pt := by cases p with
        | nil => exact absurd rfl hdo.ne
        | cons a b => exact ⟨a, b, rfl⟩
      have hk0 : k0 < a.parts.length := hdo.lt k0 (by rw [hp0]; simp)
      have := ok.stream _ (List.getElem_mem hk0)
      unfold msgOf
      rw [hp0]
      simp only [List.headD_cons, dataAt_eq hk0]
      exact this.2
end Go.Cap

/- Contracts: the packets of a talk (the reference's). -/
namespace Go.Cap
open Go Go.Proofs
set_option maxRecDepth 100000
set_option linter.unusedSimpArgs false
set_option linter.unusedVariables false
attribute [local irreducible] Call Run Spec Le

theorem s_l41PartsP (t : Talk) (byB : Bool) (hv : talkB t = true) : Spec Try.prog 76 0 [] [t.ro, .bo byB] (Plain fun r => r = .r (.ro none ((talkParts t byB).map Data.row))) := by
  have := s_l41Parts t byB hv
  rw [← List.length_map (f := Data.row)] at this
  exact this.dataP
theorem s_l41Packet (t : Talk) (byB : Bool) (c : Chunk) : Spec Try.prog 80 0 [] [t.ro, .bo byB, .r (.ro none [c.row])] (fun r _ _ _ => r = (onePk t byB c).ro) := by
  refine mk80 rfl fun c hP hm => ?_
  unfold pc80 Talk.ro Talk.av onePk
  cases byB <;> simp only [hm, go_sem, ↓reduceIte]
  all_goals rfl
theorem s_l41One (t : Talk) (byB : Bool) (k : Int) : Spec Try.prog 81 0 [] [t.ro, .bo byB, .i k] (fun r _ _ _ => r = (onePk t byB ⟨k, 0, []⟩).ro) := by
  refine mk81 rfl fun c hP hm => ?_
  unfold pc81 Talk.ro Talk.av
  simp only [hm, go_sem, ↓reduceIte]
  refine call_frz 2 rfl rfl (by simp only [go_sem, ↓reduceIte]) ?_
  simp only [hm, go_sem, ↓reduceIte]
  refine call_data (hP ▸ s_l41Packet t byB ⟨k, 0, []⟩) rfl rfl ?_
  simp only [Packet.ro, hm, go_sem, ↓reduceIte]
theorem onePk_av (t : Talk) (b : Bool) (c : Chunk) : (onePk t b c).ro = .agg [.i (onePk t b c).fr, .i (onePk t b c).to, .i (onePk t b c).tag, .r (.ro none [c.row])] := by
  cases b <;> rfl
theorem onePk_row (t : Talk) (b : Bool) (c : Chunk) : (onePk t b c).row = [.n .i64 (onePk t b c).fr, .n .i64 (onePk t b c).to, .n .i64 (onePk t b c).tag, .ro none [c.row]] := by
  cases b <;> rfl
theorem s_l41Hello (t : Talk) (hv : talkB t = true) : Spec Try.prog 75 0 [] [t.ro] (New1 (.sl 0 0 4) 4 ((hello t).map Packet.row)) := by
  refine Spec.new1 (r0 := .sl 0 0 4) (Q := fun r hp _ _ => ∃ b, r = .sl b 0 4 ∧ hget hp b = some (.row 4 ((hello t).map Packet.row))) ?_ (fun r hp nx gs h => h) (fun f g h => by simp only [go_sem, h])
  have hi := init_ok hv
  refine mk75 rfl fun c hP hm => ?_
  unfold pc75 Talk.ro Talk.av
  simp only [hm, go_sem, ↓reduceIte]
  refine call_data (hP ▸ s_specInitPut t.a false (hi false)) rfl rfl ?_
  simp only [Chunk.av, hm, go_sem, ↓reduceIte]
  refine call_data (hP ▸ s_specInitPut t.b true (hi true)) rfl rfl ?_
  simp only [Chunk.av, hm, go_sem, ↓reduceIte]
  refine call_frz 3 rfl rfl (by simp only [go_sem, ↓reduceIte]) ?_
  simp only [hm, go_sem, ↓reduceIte]
  refine call_data (hP ▸ s_l41Packet t false (initPut t.a false)) rfl rfl ?_
  simp only [onePk, Packet.ro, List.map_cons, List.map_nil, hm, go_sem, ↓reduceIte]
  refine call_frz 5 rfl rfl (by simp only [go_sem, ↓reduceIte]) ?_
  simp only [hm, go_sem, ↓reduceIte]
  refine call_data (hP ▸ s_l41Packet t true (initPut t.b true)) rfl rfl ?_
  simp only [onePk, Packet.ro, List.map_cons, List.map_nil, hm, go_sem, ↓reduceIte]
  refine call_data (hP ▸ s_l41One t false 10) rfl rfl ?_
  simp only [onePk, Packet.ro, List.map_cons, List.map_nil, hm, go_sem, ↓reduceIte]
  refine call_data (hP ▸ s_l41One t true 11) rfl rfl ?_
  simp only [onePk, Packet.ro, List.map_cons, List.map_nil, hm, go_sem, ↓reduceIte]
  exact ⟨6, rfl, rfl⟩
theorem s_specTalkPackets (t : Talk) (hl : t.says.length ≤ 1048576) (hx : ∀ s ∈ t.says, s.text.length ≤ 1048576) : Spec Try.prog 35 0 [] [t.ro] (Plain fun r => r = .r (.ro none ((talkPk t).map Packet.row))) := by
  refine Spec.data1 (sz := 4) (Q := fun r hp _ _ => ∃ b, r = .sl b 0 ((talkPk t).map Packet.row).length ∧ hget hp b = some (.row 4 ((talkPk t).map Packet.row))) ?_ (fun r hp nx gs h => h)
  refine mr35 rfl fun c hP hm => ?_
  unfold pc35 Talk.ro Talk.av
  refine run_seq (run_wpc _ _ _ _ _ ?_)
  simp only [hm, go_sem, ↓reduceIte]
  refine run_seq (run_wpc _ _ _ _ _ ?_)
  simp only [hm, go_sem, ↓reduceIte]
  refine call_pure (hP ▸ s_specTalkValid t hl hx) rfl rfl ?_
  by_cases hv : talkB t = true
  rotate_left
  · have hv' : talkB t = false := by simpa using hv
    have e : talkPk t = [] := by unfold talkPk; rw [if_neg hv]
    simp only [hv', e, hm, go_sem, ↓reduceIte]
    exact ⟨1, rfl, rfl⟩
  obtain ⟨hsz, hlen, hsays, hta, htb, _, _⟩ := talk_ok hv
  have hz : t.size = (t.size.toNat : Int) := by omega
  have hz1 : 1 ≤ t.size.toNat ∧ t.size.toNat ≤ 20 := by omega
  simp only [hv, hm, go_sem, ↓reduceIte]
  refine run_seq (run_wpc _ _ _ _ _ ?_)
  simp only [hm, go_sem, ↓reduceIte]
  refine call_new1p (hP ▸ s_l41Hello t hv) rfl ?_
  simp only [hm, go_sem, ↓reduceIte]
  refine run_seq (run_wpc _ _ _ _ _ ?_)
  simp only [hm, go_sem, ↓reduceIte]
  refine call_dataP (hP ▸ s_l41PartsP t false hv) rfl rfl ?_
  simp only [hm, go_sem, ↓reduceIte]
  refine run_seq (run_wpc _ _ _ _ _ ?_)
  simp only [hm, go_sem, ↓reduceIte]
  refine call_dataP (hP ▸ s_l41PartsP t true hv) rfl rfl ?_
  simp only [hm, go_sem, ↓reduceIte]
  refine run_seq (run_wpc _ _ _ _ _ ?_)
  simp only [hm, go_sem, ↓reduceIte]
  have hal := all_len hv
  have hmany : ∀ i (h : i < t.says.length), ((t.says[i].text.length : Int) + t.size - 1) / t.size = ((manyN t.says[i].text.length t.size.toNat : Nat) : Int) := fun i h => by
    obtain ⟨b1, b2, _⟩ := hsays _ (List.getElem_mem h)
    unfold manyN
    rw [hz, Int.toNat_natCast, Int.natCast_ediv]
    congr 1; omega
  refine run_exit 0 (fun t0 => t0 = ⟨[(1, .ptr 0 0 0), (3, .sl 1 0 (hello t ++ saysPk t t.all).length)], [(1, .row 4 ((hello t ++ saysPk t t.all).map Packet.row)), (0, .var [.i t.fr, .i t.to, .i t.a.tag, .i t.a.window, .i t.a.streams, .i t.a.tsn, .i t.b.tag, .i t.b.window, .i t.b.streams, .i t.b.tsn, .i t.size, .r (.ro none (t.says.map Say.row))])], 2, []⟩) ?_ ?_
  · refine lp_wpc (α := Nat) (fun i => ⟨[(1, .ptr 0 0 0), (3, .sl 1 0 (hello t ++ saysPk t (t.all.take (t.q i))).length), (4, .r (.ro none ((sideL false (t.all.drop (t.q i))).map Data.row))), (5, .r (.ro none ((sideL true (t.all.drop (t.q i))).map Data.row))), (6, .i i)],
        [(1, .row 4 ((hello t ++ saysPk t (t.all.take (t.q i))).map Packet.row)), (0, .var [.i t.fr, .i t.to, .i t.a.tag, .i t.a.window, .i t.a.streams, .i t.a.tsn, .i t.b.tag, .i t.b.window, .i t.b.streams, .i t.b.tsn, .i t.size, .r (.ro none (t.says.map Say.row))])], 2, []⟩)
      (fun i => i ≤ t.says.length) (fun i => t.says.length - i) 0 (Nat.zero_le _) (by rw [talk_q_zero, List.drop_zero, List.take_zero, talk_side hv, talk_side hv]; simp only [saysPk, List.flatMap_nil, List.append_nil, hello, List.length_cons, List.length_nil]; (refine le_ev [] ?_; simp only [hm, go_sem, ↓reduceIte]; first | done | rfl | exact ⟨rfl, rfl⟩)) ?_
    intro i hi
    unfold pc35l1
    rcases Nat.lt_or_ge i t.says.length with hil | hil
    · have hw : IntKind.i64.wrap ((i : Int) + 1) = ((i + 1 : Nat) : Int) := by rw [wrap64 (by omega) (by omega)]; omega
      have hg := getD_map (f := Say.row) hil
      obtain ⟨hq1, hq2⟩ := talk_q hil
      have hqe := talk_q_le (show i + 1 ≤ t.says.length from hil)
      have hsay := hsays _ (List.getElem_mem hil)
      have hmi := hmany i hil
      generalize hsd : t.says[i] = s at hg hq1 hq2 hsay hmi
      obtain ⟨b1, b2, _⟩ := hsay
      simp only [Int.toNat_natCast, hg, Say.row, hm, go_sem, ↓reduceIte]
      repeat' first | refine And.intro ?_ ?_ | intro _ | (refine call_pure (hP ▸ s_l41Many s.text t.size (by omega)) rfl rfl ?_; simp only [Int.toNat_natCast, hg, Say.row, hmi, hm, go_sem, ↓reduceIte])
      all_goals first
        | omega
        | rfl
        | skip
      refine lp_wpc (α := Nat) (fun q => ⟨[(1, .ptr 0 0 0), (3, .sl 1 0 ((hello t).length + (saysPk t (t.all.take q)).length)), (4, .r (.ro none ((sideL false (t.all.drop q)).map Data.row))), (5, .r (.ro none ((sideL true (t.all.drop q)).map Data.row))), (6, .i i), (7, .bo s.byB), (8, .i (t.q (i + 1) - q : Nat))],
          [(1, .row 4 ((hello t ++ saysPk t (t.all.take q)).map Packet.row)), (0, .var [.i t.fr, .i t.to, .i t.a.tag, .i t.a.window, .i t.a.streams, .i t.a.tsn, .i t.b.tag, .i t.b.window, .i t.b.streams, .i t.b.tsn, .i t.size, .r (.ro none (t.says.map Say.row))])], 2, []⟩)
        (fun q => t.q i ≤ q ∧ q ≤ t.q (i + 1)) (fun q => t.q (i + 1) - q) (t.q i) ⟨Nat.le_refl _, by omega⟩ (by rw [hq1, Nat.add_sub_cancel_left]; (refine le_ev [] ?_; simp only [hm, go_sem, ↓reduceIte]; first | done | rfl | exact ⟨rfl, rfl⟩)) ?_
      rintro q ⟨hqa, hqb⟩
      unfold pc35l0
      rcases Nat.lt_or_ge q (t.q (i + 1)) with hql | hql
      · have hqal : q < t.all.length := by omega
        have hdt := side_drop hqal true
        have hdf := side_drop hqal false
        have hpk := saysPk_take (t := t) hqal
        have hbb := hq2 q hqal hqa hql
        have hdok := talkAll_data hv (List.getElem_mem hqal)
        have htsn := (data_ok hdok).1
        have hwk : IntKind.i64.wrap (((t.q (i + 1) - q : Nat) : Int) - 1) = ((t.q (i + 1) - (q + 1) : Nat) : Int) := by rw [wrap64 (by omega) (by omega)]; omega
        have hsl : (saysPk t (t.all.take q)).length = 2 * q := by rw [saysPk_len, List.length_take]; omega
        have hsl2 : (saysPk t (t.all.take (q + 1))).length = 2 * (q + 1) := by rw [saysPk_len, List.length_take]; omega
        generalize hx : t.all[q] = x at hdt hdf hpk hbb hdok htsn
        obtain ⟨xb, d⟩ := x
        simp only at hdt hdf hpk hbb hdok htsn
        have hln : ((t.q (i + 1) - q : Nat) : Int) > 0 := by omega
        have hh : (hello t).length = 4 := rfl
        have hrw : List.take ((hello t).length + (saysPk t (t.all.take q)).length) ((hello t ++ saysPk t (t.all.take q)).map Packet.row) = (hello t ++ saysPk t (t.all.take q)).map Packet.row := List.take_of_length_le (by rw [List.length_map, List.length_append]; exact Nat.le_refl _)
        cases xb
        all_goals
          simp only [if_true, if_false, Bool.false_eq_true, Bool.true_eq_false] at hdt hdf
          simp only [← hbb, hdt, hdf, List.map_cons, Data.row, hwk, Int.toNat_natCast, hm, go_sem, ↓reduceIte]
          repeat' first | refine And.intro ?_ ?_ | intro _
          all_goals first
            | omega
            | rfl
            | (rename_i hr
               first
                 | (rcases List.mem_cons.1 hr with rfl | hr <;> first | rfl | (obtain ⟨_, _, rfl⟩ := List.mem_map.1 hr; rfl))
                 | (rcases hr with rfl | hr <;> first | rfl | (obtain ⟨_, _, rfl⟩ := List.mem_map.1 hr; rfl)))
            | skip
          rw [take_map_len]
          refine call_data (hP ▸ s_specDataPut d hdok) rfl rfl ?_
          simp only [Chunk.av, hm, go_sem, ↓reduceIte]
          refine call_data (hP ▸ s_specSackPut0 d.tsn htsn) rfl rfl ?_
          simp only [Chunk.av, hm, go_sem, ↓reduceIte]
          repeat' first
            | refine And.intro ?_ ?_
            | (refine call_frz 5 rfl rfl (by simp only [go_sem, ↓reduceIte]) ?_; simp only [hm, go_sem, ↓reduceIte]; refine call_data (hP ▸ s_l41Packet t true (dataPut d)) rfl rfl ?_; simp only [onePk_av, hm, go_sem, ↓reduceIte])
            | (refine call_frz 5 rfl rfl (by simp only [go_sem, ↓reduceIte]) ?_; simp only [hm, go_sem, ↓reduceIte]; refine call_data (hP ▸ s_l41Packet t true (sackPut ⟨d.tsn, []⟩)) rfl rfl ?_; simp only [onePk_av, hm, go_sem, ↓reduceIte])
            | (refine call_frz 5 rfl rfl (by simp only [go_sem, ↓reduceIte]) ?_; simp only [hm, go_sem, ↓reduceIte]; refine call_data (hP ▸ s_l41Packet t false (dataPut d)) rfl rfl ?_; simp only [onePk_av, hm, go_sem, ↓reduceIte])
            | (refine call_frz 5 rfl rfl (by simp only [go_sem, ↓reduceIte]) ?_; simp only [hm, go_sem, ↓reduceIte]; refine call_data (hP ▸ s_l41Packet t false (sackPut ⟨d.tsn, []⟩)) rfl rfl ?_; simp only [onePk_av, hm, go_sem, ↓reduceIte])
            | (refine call_frz 6 rfl rfl (by simp only [go_sem, ↓reduceIte]) ?_; simp only [hm, go_sem, ↓reduceIte]; refine call_data (hP ▸ s_l41Packet t true (dataPut d)) rfl rfl ?_; simp only [onePk_av, hm, go_sem, ↓reduceIte])
            | (refine call_frz 6 rfl rfl (by simp only [go_sem, ↓reduceIte]) ?_; simp only [hm, go_sem, ↓reduceIte]; refine call_data (hP ▸ s_l41Packet t true (sackPut ⟨d.tsn, []⟩)) rfl rfl ?_; simp only [onePk_av, hm, go_sem, ↓reduceIte])
            | (refine call_frz 6 rfl rfl (by simp only [go_sem, ↓reduceIte]) ?_; simp only [hm, go_sem, ↓reduceIte]; refine call_data (hP ▸ s_l41Packet t false (dataPut d)) rfl rfl ?_; simp only [onePk_av, hm, go_sem, ↓reduceIte])
            | (refine call_frz 6 rfl rfl (by simp only [go_sem, ↓reduceIte]) ?_; simp only [hm, go_sem, ↓reduceIte]; refine call_data (hP ▸ s_l41Packet t false (sackPut ⟨d.tsn, []⟩)) rfl rfl ?_; simp only [onePk_av, hm, go_sem, ↓reduceIte])
            | (refine call_frz 7 rfl rfl (by simp only [go_sem, ↓reduceIte]) ?_; simp only [hm, go_sem, ↓reduceIte]; refine call_data (hP ▸ s_l41Packet t true (dataPut d)) rfl rfl ?_; simp only [onePk_av, hm, go_sem, ↓reduceIte])
            | (refine call_frz 7 rfl rfl (by simp only [go_sem, ↓reduceIte]) ?_; simp only [hm, go_sem, ↓reduceIte]; refine call_data (hP ▸ s_l41Packet t true (sackPut ⟨d.tsn, []⟩)) rfl rfl ?_; simp only [onePk_av, hm, go_sem, ↓reduceIte])
            | (refine call_frz 7 rfl rfl (by simp only [go_sem, ↓reduceIte]) ?_; simp only [hm, go_sem, ↓reduceIte]; refine call_data (hP ▸ s_l41Packet t false (dataPut d)) rfl rfl ?_; simp only [onePk_av, hm, go_sem, ↓reduceIte])
            | (refine call_frz 7 rfl rfl (by simp only [go_sem, ↓reduceIte]) ?_; simp only [hm, go_sem, ↓reduceIte]; refine call_data (hP ▸ s_l41Packet t false (sackPut ⟨d.tsn, []⟩)) rfl rfl ?_; simp only [onePk_av, hm, go_sem, ↓reduceIte])
          all_goals first
            | omega
            | (refine ⟨q + 1, ⟨by omega, by omega⟩, by omega, ?_⟩
               rw [hrw, hpk, hwk]
               simp only [List.map_append, List.append_assoc, List.map_cons, List.map_nil, onePk_row, List.length_append, List.length_cons, List.length_nil, Nat.add_assoc, Bool.not_true, Bool.not_false]
               (refine le_ev [(0, 0), (1, 1)] ?_; simp only [hm, go_sem, ↓reduceIte]; first | done | rfl | exact ⟨rfl, rfl⟩))
      · have : q = t.q (i + 1) := by omega
        subst this
        simp only [hw, Nat.sub_self, hm, go_sem, ↓reduceIte]
        repeat' first | refine And.intro ?_ ?_ | intro _
        all_goals first
          | omega
          | (refine ⟨i + 1, hil, by omega, ?_⟩; (refine le_ev [] ?_; simp only [hm, go_sem, ↓reduceIte]; first | done | rfl | exact ⟨rfl, rfl⟩))
    · have : i = t.says.length := by omega
      subst this
      rw [talk_q_end, List.take_length]
      simp only [hm, go_sem, ↓reduceIte]
      repeat' first | refine And.intro ?_ ?_ | intro _
      all_goals first
        | omega
        | (refine ⟨_, rfl, ?_⟩; (refine le_ev [] ?_; simp only [hm, go_sem, ↓reduceIte]; first | done | rfl | exact ⟨rfl, rfl⟩))
  rintro t0 rfl
  refine run_wpc _ _ _ _ _ ?_
  simp only [hm, go_sem, ↓reduceIte]
  have hh : (hello t).length = 4 := rfl
  have hsl : (saysPk t t.all).length = 2 * t.all.length := saysPk_len t t.all
  have hrw : List.take ((hello t).length + (saysPk t t.all).length) ((hello t ++ saysPk t t.all).map Packet.row) = (hello t ++ saysPk t t.all).map Packet.row := List.take_of_length_le (by rw [List.length_map, List.length_append]; exact Nat.le_refl _)
  have hpk : talkPk t = hello t ++ saysPk t t.all ++ bye t := by unfold talkPk; rw [if_pos hv]
  refine call_data (hP ▸ s_l41One t false 7) rfl rfl ?_
  simp only [onePk_av, hm, go_sem, ↓reduceIte]
  repeat' first
    | refine And.intro ?_ ?_
    | (refine call_data (hP ▸ s_l41One t true 8) rfl rfl ?_; simp only [onePk_av, hm, go_sem, ↓reduceIte])
    | (refine call_data (hP ▸ s_l41One t false 14) rfl rfl ?_; simp only [onePk_av, hm, go_sem, ↓reduceIte])
  all_goals first
    | omega
    | rfl
    | (rw [hpk, hrw]
       refine ⟨1, ?_, ?_⟩
       · simp [bye, Nat.add_assoc]
       · simp only [go_sem, ↓reduceIte, List.map_append, bye, List.map_cons, List.map_nil, onePk_row])
end Go.Cap
