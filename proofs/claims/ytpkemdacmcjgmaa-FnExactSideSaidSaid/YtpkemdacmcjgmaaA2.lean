import Derived.Test.YtpkemdacmcjgmaaA1
import Derived.Test.YtpkemdacmcjgmaaEngC
/- Contracts: sizes and copies of a talk. -/
namespace Go.Cap
open Go Go.Proofs
set_option maxRecDepth 100000
set_option linter.unusedSimpArgs false
set_option linter.unusedVariables false
attribute [local irreducible] Call Run Spec Le

/-- What is left of a bound. -/
def szText (n left : Int) : Int := if left - n < 0 then -1 else left - n
def szTexts : List Int → Int → Int
  | [], left => left
  | n :: l, left => if szText n left < 0 then -1 else szTexts l (szText n left)
def szSays (l : List Say) (left : Int) : Int := if left - l.length < 0 then -1 else szTexts (l.map fun s => (s.text.length : Int)) (left - l.length)

theorem s_szSay (s : Say) (left : Int) (h : 0 ≤ left ∧ left ≤ 1048576) (ht : (s.text.length : Int) ≤ 9223372036854775807) : Spec Try.prog 74 0 [] [s.av, .i left] (fun r _ _ _ => r = .i (szText s.text.length left)) := by
  refine mk74 rfl fun c hP hm => ?_
  unfold pc74 Say.av
  simp only [go_sem, ↓reduceIte]
  rw [wrap64 (by omega) (by omega)]
  unfold szText
  refine ⟨fun h => ?_, fun h => ?_⟩
  · rw [if_pos h]
  · rw [if_neg (by omega)]
theorem szTexts_drop {l : List Int} {i : Nat} (h : i < l.length) (left : Int) : szTexts (l.drop i) left = if szText l[i] left < 0 then -1 else szTexts (l.drop (i + 1)) (szText l[i] left) := by
  rw [List.drop_eq_getElem_cons h]; rfl
theorem szText_le (n left : Int) (hn : 0 ≤ n) : szText n left ≤ left ∨ szText n left = -1 := by
  unfold szText; split
  · exact .inr rfl
  · exact .inl (by omega)

theorem s_szSayS (l : List Say) (left : Int) (h : 0 ≤ left ∧ left ≤ 1048576) (hl : (l.length : Int) ≤ 9223372036854775807) (ht : ∀ s ∈ l, (s.text.length : Int) ≤ 9223372036854775807) :
    Spec Try.prog 46 0 [] [.r (.ro none (l.map Say.row)), .i left] (fun r _ _ _ => r = .i (szSays l left)) := by
  refine mk46 rfl fun c hP hm => ?_
  unfold pc46
  simp only [go_sem, ↓reduceIte]
  intro _
  rw [wrap64 (by omega) (by omega)]
  unfold szSays
  refine ⟨fun h => ?_, fun h => ?_⟩
  · rw [if_pos h]
  · rw [if_neg (by omega)]
    refine lp_wpc (α := Nat × Int) (fun y => ⟨[(0, .r (.ro none (l.map Say.row))), (1, .i y.2), (5, .i y.1)], [], 0, []⟩)
      (fun y => y.1 ≤ l.length ∧ 0 ≤ y.2 ∧ y.2 ≤ 1048576 ∧ szTexts ((l.map fun s => (s.text.length : Int)).drop y.1) y.2 = szTexts (l.map fun s => (s.text.length : Int)) (left - l.length)) (fun y => l.length - y.1) (0, left - l.length)
      ⟨Nat.zero_le _, by omega, by omega, rfl⟩ (Le.refl _) ?_
    rintro ⟨i, x⟩ ⟨hi, hx0, hx1, hx⟩
    unfold pc46l0
    simp only [go_sem, ↓reduceIte]
    intro _
    refine ⟨fun hlt => ?_, fun hge => ?_⟩
    · have hil : i < l.length := by omega
      rw [szTexts_drop (by simpa using hil)] at hx
      simp only [List.getElem_map] at hx
      simp only [Int.toNat_natCast, getD_map hil, Say.row, go_sem, ↓reduceIte]
      refine ⟨⟨by omega, by omega⟩, ?_⟩
      refine call_pure (hP ▸ s_szSay l[i] x ⟨hx0, hx1⟩ (ht _ (List.getElem_mem hil))) rfl rfl ?_
      simp only [go_sem, ↓reduceIte]
      refine ⟨fun hneg => ?_, fun hpos => ?_⟩
      · rw [if_pos hneg] at hx; rw [← hx]
      · rw [if_neg (by omega)] at hx
        rw [wrap64 (by omega) (by omega)]
        have := szText_le l[i].text.length x (by omega)
        exact ⟨(i + 1, szText l[i].text.length x), ⟨hil, by omega, by omega, hx⟩, by simp only; omega, Le.refl _⟩
    · have : i = l.length := by omega
      subst this
      rw [List.drop_eq_nil_of_le (by simp)] at hx
      rw [← hx]; rfl

theorem s_szTalk (t : Talk) (left : Int) (h : 0 ≤ left ∧ left ≤ 1048576) (hl : (t.says.length : Int) ≤ 9223372036854775807) (ht : ∀ s ∈ t.says, (s.text.length : Int) ≤ 9223372036854775807) :
    Spec Try.prog 15 0 [] [t.ro, .i left] (fun r _ _ _ => r = .i (if szSays t.says left < 0 then -1 else szSays t.says left)) := by
  refine mk15 rfl fun c hP hm => ?_
  unfold pc15 Talk.ro Talk.av
  simp only [go_sem, ↓reduceIte]
  refine call_pure (hP ▸ s_szSayS t.says left h hl ht) rfl rfl ?_
  simp only [go_sem, ↓reduceIte]
  refine ⟨fun h => ?_, fun h => ?_⟩
  · rw [if_pos h]
  · rw [if_neg (by omega)]
theorem szTexts_spec : ∀ (l : List Int) (left : Int), (∀ n ∈ l, 0 ≤ n) → 0 ≤ szTexts l left → left - szTexts l left = l.sum
  | [], left, _, _ => by simp [szTexts]
  | n :: l, left, hn, h => by
    simp only [szTexts] at h ⊢
    split at h
    · omega
    · rename_i h1
      rw [if_neg h1]
      have := szTexts_spec l (szText n left) (fun n hm => hn n (List.mem_cons_of_mem _ hm)) h
      have h2 : szText n left = left - n := by
        unfold szText at h1 ⊢; split
        · rename_i h3; rw [if_pos h3] at h1; omega
        · rfl
      rw [h2] at this ⊢
      simp only [List.sum_cons]; omega
theorem sum_mem : ∀ (l : List Int), (∀ n ∈ l, 0 ≤ n) → ∀ n ∈ l, n ≤ l.sum
  | [], _, n, h => by cases h
  | x :: l, hl, n, h => by
    have h0 := hl x (by simp)
    have hp : ∀ (l : List Int), (∀ n ∈ l, 0 ≤ n) → 0 ≤ l.sum := by
      intro l
      induction l with
      | nil => intro _; simp
      | cons y l ih => intro h; have := h y (by simp); have := ih (fun n hn => h n (List.mem_cons_of_mem _ hn)); simp only [List.sum_cons]; omega
    have h1 := hp l (fun n hn => hl n (List.mem_cons_of_mem _ hn))
    rcases List.mem_cons.1 h with rfl | h
    · simp only [List.sum_cons]; omega
    · have := sum_mem l (fun n hn => hl n (List.mem_cons_of_mem _ hn)) n h
      simp only [List.sum_cons]; omega
/-- What a bound that holds says. -/
theorem szSays_ok {l : List Say} (h : 0 ≤ szSays l 1048576) : l.length ≤ 1048576 ∧ ∀ s ∈ l, s.text.length ≤ 1048576 := by
  unfold szSays at h
  split at h
  · omega
  · rename_i h1
    have hn : ∀ n ∈ l.map (fun s => (s.text.length : Int)), 0 ≤ n := fun n hm => by
      obtain ⟨s, _, rfl⟩ := List.mem_map.1 hm; omega
    have h2 := szTexts_spec _ _ hn h
    refine ⟨by omega, fun s hs => ?_⟩
    have := sum_mem _ hn s.text.length (List.mem_map.2 ⟨s, hs, rfl⟩)
    omega

theorem s_toInit (x : Init) : Spec Try.prog 50 0 [] [x.av] (fun r _ _ _ => r = x.av) := by
  refine mk50 rfl fun c hP hm => ?_
  unfold pc50 Init.av
  simp only [go_sem, ↓reduceIte]
theorem s_toSay (x : Say) : Spec Try.prog 76 0 [] [x.av] (fun r _ _ _ => r = x.av) := by
  refine mk76 rfl fun c hP hm => ?_
  unfold pc76 Say.av
  simp only [go_sem, ↓reduceIte]
theorem row_av (s : Say) : AV.agg (s.row.map .r) = s.av := rfl

theorem s_toSayS (l : List Say) (hl : l.length ≤ 1048576) : Spec Try.prog 51 0 [] [.r (.ro none (l.map Say.row))] (New1 (.sl 0 0 l.length) 4 (l.map Say.row)) := by
  refine mk51 rfl fun c hP hm => ?_
  unfold pc51
  simp only [go_sem, ↓reduceIte]
  simp only [Int.toNat_natCast]
  intro _
  refine ⟨⟨by omega, by omega⟩, ?_⟩
  refine lp_wpc (α := Nat) (fun i => ⟨[(0, .r (.ro none (l.map Say.row))), (3, .sl 0 0 l.length), (4, .i i)], [(0, .row 4 ((l.map Say.row).take i ++ List.replicate ((l.map Say.row).length - i) [.b false, .n .i64 0, .b false, .s []]))], 1, []⟩)
    (fun i => i ≤ l.length) (fun i => l.length - i) 0 (Nat.zero_le _) (le_eq (by simp)) ?_
  intro i hi
  unfold pc51l0
  simp only [go_sem, ↓reduceIte]
  intro _
  refine ⟨fun hlt => ?_, fun hge => ?_⟩
  · have hil : i < l.length := by omega
    simp only [Int.toNat_natCast, getD_map hil, Say.row, go_sem, ↓reduceIte]
    refine ⟨⟨by omega, by omega⟩, ?_⟩
    refine call_pure (hP ▸ s_toSay l[i]) rfl rfl ?_
    simp only [Say.av, go_sem, ↓reduceIte, Int.toNat_natCast]
    refine ⟨⟨by omega, by omega⟩, ?_, i + 1, hil, by omega, le_eq ?_⟩
    · simp; omega
    · have h1 := fill_set (M := l.map Say.row) (z := [.b false, .n .i64 0, .b false, .s []]) (i := i) (by simpa using hil)
      simp only [List.getElem_map, Say.row, List.length_map] at h1
      try simp only [List.length_map]
      rw [wrap64 (by omega) (by omega), ← h1]
      rfl
  · have : i = l.length := by omega
    subst this
    refine ⟨rfl, ?_, rfl, rfl⟩
    simp
    exact List.take_of_length_le (by simp)
theorem sayClosed (l : List Say) : closL2 (l.map Say.row) := closL2_map (fun s x hx => by
  simp only [Say.row, List.mem_cons, List.not_mem_nil, or_false] at hx
  rcases hx with rfl | rfl | rfl | rfl <;> rfl) l

/-- A talk's copy. -/
theorem s_toTalk (t : Talk) (hl : t.says.length ≤ 1048576) : Spec Try.prog 17 0 [] [t.ro] (New1 (t.av (.sl 0 0 t.says.length)) 4 (t.says.map Say.row)) := by
  refine Spec.new1 (Q := fun r hp _ _ => r = t.av (.sl 3 0 t.says.length) ∧ hget hp 3 = some (.row 4 (t.says.map Say.row))) ?_ (fun r hp nx gs h => ⟨3, by rw [h.1]; rfl, h.2⟩) (fun f g h => by simp only [Talk.av, go_sem, h])
  refine mk17 rfl fun c hP hm => ?_
  unfold pc17 Talk.ro Talk.av
  simp only [go_sem, ↓reduceIte]
  refine call_pure (hP ▸ s_toInit t.a) rfl rfl ?_
  simp only [Init.av, go_sem, ↓reduceIte]
  refine call_pure (hP ▸ s_toInit t.b) rfl rfl ?_
  simp only [Init.av, go_sem, ↓reduceIte]
  refine call_new1 (hP ▸ s_toSayS t.says hl) rfl (sayClosed _) (vws_self _ _ rfl) ?_
  simp only [go_sem, ↓reduceIte]
end Go.Cap
