import Derived.Test.YtpkemdacmcjgmaaV3
import Derived.Test.YtpkemdacmcjgmaaX2
/- Contracts: sizes, copies and marks of a side. -/
namespace Go.Cap
open Go Go.Proofs
set_option maxRecDepth 100000
set_option linter.unusedSimpArgs false
set_option linter.unusedVariables false
attribute [local irreducible] Call Run Spec Le

def szDatas (l : List Data) (left : Int) : Int := if left - l.length < 0 then -1 else szTexts (l.map fun s => (s.text.length : Int)) (left - l.length)
theorem s_szData (s : Data) (left : Int) (h : 0 ≤ left ∧ left ≤ 1048576) (ht : (s.text.length : Int) ≤ 9223372036854775807) : Spec Try.prog 84 0 [] [s.av, .i left] (fun r _ _ _ => r = .i (szText s.text.length left)) := by
  refine mk84 rfl fun c hP hm => ?_
  unfold pc84 Data.av
  simp only [go_sem, ↓reduceIte]
  rw [wrap64 (by omega) (by omega)]
  unfold szText
  refine ⟨fun h => ?_, fun h => ?_⟩
  · rw [if_pos h]
  · rw [if_neg (by omega)]
theorem s_szDataS (l : List Data) (left : Int) (h : 0 ≤ left ∧ left ≤ 1048576) (hl : (l.length : Int) ≤ 9223372036854775807) (ht : ∀ s ∈ l, (s.text.length : Int) ≤ 9223372036854775807) :
    Spec Try.prog 62 0 [] [.r (.ro none (l.map Data.row)), .i left] (fun r _ _ _ => r = .i (szDatas l left)) := by
  refine mk62 rfl fun c hP hm => ?_
  unfold pc62
  simp only [go_sem, ↓reduceIte]
  intro _
  rw [wrap64 (by omega) (by omega)]
  unfold szDatas
  refine ⟨fun h => ?_, fun h => ?_⟩
  · rw [if_pos h]
  · rw [if_neg (by omega)]
    refine lp_wpc (α := Nat × Int) (fun y => ⟨[(0, .r (.ro none (l.map Data.row))), (1, .i y.2), (5, .i y.1)], [], 0, []⟩)
      (fun y => y.1 ≤ l.length ∧ 0 ≤ y.2 ∧ y.2 ≤ 1048576 ∧ szTexts ((l.map fun s => (s.text.length : Int)).drop y.1) y.2 = szTexts (l.map fun s => (s.text.length : Int)) (left - l.length)) (fun y => l.length - y.1) (0, left - l.length)
      ⟨Nat.zero_le _, by omega, by omega, rfl⟩ (Le.refl _) ?_
    rintro ⟨i, x⟩ ⟨hi, hx0, hx1, hx⟩
    unfold pc62l0
    simp only [go_sem, ↓reduceIte]
    intro _
    refine ⟨fun hlt => ?_, fun hge => ?_⟩
    · have hil : i < l.length := by omega
      rw [szTexts_drop (by simpa using hil)] at hx
      simp only [List.getElem_map] at hx
      simp only [Int.toNat_natCast, getD_map hil, Data.row, go_sem, ↓reduceIte]
      refine ⟨⟨by omega, by omega⟩, ?_⟩
      refine call_pure (hP ▸ s_szData l[i] x ⟨hx0, hx1⟩ (ht _ (List.getElem_mem hil))) rfl rfl ?_
      simp only [go_sem, ↓reduceIte]
      refine ⟨fun hneg => ?_, fun hpos => ?_⟩
      · rw [if_pos hneg] at hx; rw [← hx]
      · rw [if_neg (by omega)] at hx
        rw [wrap64 (by omega) (by omega)]
        have := szText_le l[i].text.length x (by omega)
        exact ⟨(i + 1, szText l[i].text.length x), ⟨hil, by omega, by omega, hx⟩, by simp only; omega, Le.refl _⟩
    · have : i = l.length := by omega
      subst this
      rw [List.drop_eq_nil_of_le (by simp)] at hx
      rw [← hx]; rfl

theorem s_szSide (t : Side) (left : Int) (h : 0 ≤ left ∧ left ≤ 1048576) (hl : (t.sent.length : Int) ≤ 9223372036854775807) (ht : ∀ s ∈ t.sent, (s.text.length : Int) ≤ 9223372036854775807) :
    Spec Try.prog 30 0 [] [t.ro, .i left] (fun r _ _ _ => r = .i (if szDatas t.sent left < 0 then -1 else szDatas t.sent left)) := by
  refine mk30 rfl fun c hP hm => ?_
  unfold pc30 Side.ro Side.av
  simp only [go_sem, ↓reduceIte]
  refine call_pure (hP ▸ s_szDataS t.sent left h hl ht) rfl rfl ?_
  simp only [go_sem, ↓reduceIte]
  refine ⟨fun h => ?_, fun h => ?_⟩
  · rw [if_pos h]
  · rw [if_neg (by omega)]
/-- What a bound that holds says. -/
theorem szDatas_ok {l : List Data} (h : 0 ≤ szDatas l 1048576) : l.length ≤ 1048576 ∧ ∀ s ∈ l, s.text.length ≤ 1048576 := by
  unfold szDatas at h
  split at h
  · omega
  · rename_i h1
    have hn : ∀ n ∈ l.map (fun s => (s.text.length : Int)), 0 ≤ n := fun n hm => by
      obtain ⟨s, _, rfl⟩ := List.mem_map.1 hm; omega
    have h2 := szTexts_spec _ _ hn h
    refine ⟨by omega, fun s hs => ?_⟩
    have := sum_mem _ hn s.text.length (List.mem_map.2 ⟨s, hs, rfl⟩)
    omega

theorem s_toData (x : Data) : Spec Try.prog 87 0 [] [x.av] (fun r _ _ _ => r = x.av) := by
  refine mk87 rfl fun c hP hm => ?_
  unfold pc87 Data.av
  simp only [go_sem, ↓reduceIte]
theorem s_toDataS (l : List Data) (hl : l.length ≤ 1048576) : Spec Try.prog 64 0 [] [.r (.ro none (l.map Data.row))] (New1 (.sl 0 0 l.length) 7 (l.map Data.row)) := by
  refine mk64 rfl fun c hP hm => ?_
  unfold pc64
  simp only [go_sem, ↓reduceIte]
  simp only [Int.toNat_natCast]
  intro _
  refine ⟨⟨by omega, by omega⟩, ?_⟩
  refine lp_wpc (α := Nat) (fun i => ⟨[(0, .r (.ro none (l.map Data.row))), (3, .sl 0 0 l.length), (4, .i i)], [(0, .row 7 ((l.map Data.row).take i ++ List.replicate ((l.map Data.row).length - i) [.n .i64 0, .n .i64 0, .n .i64 0, .b false, .b false, .b false, .s []]))], 1, []⟩)
    (fun i => i ≤ l.length) (fun i => l.length - i) 0 (Nat.zero_le _) (le_eq (by simp)) ?_
  intro i hi
  unfold pc64l0
  simp only [go_sem, ↓reduceIte]
  intro _
  refine ⟨fun hlt => ?_, fun hge => ?_⟩
  · have hil : i < l.length := by omega
    simp only [Int.toNat_natCast, getD_map hil, Data.row, go_sem, ↓reduceIte]
    refine ⟨⟨by omega, by omega⟩, ?_⟩
    refine call_pure (hP ▸ s_toData l[i]) rfl rfl ?_
    simp only [Data.av, go_sem, ↓reduceIte, Int.toNat_natCast]
    refine ⟨⟨by omega, by omega⟩, ?_, i + 1, hil, by omega, le_eq ?_⟩
    · simp; omega
    · have h1 := fill_set (M := l.map Data.row) (z := [.n .i64 0, .n .i64 0, .n .i64 0, .b false, .b false, .b false, .s []]) (i := i) (by simpa using hil)
      simp only [List.getElem_map, Data.row, List.length_map] at h1
      try simp only [List.length_map]
      rw [wrap64 (by omega) (by omega), ← h1]
      rfl
  · have : i = l.length := by omega
    subst this
    refine ⟨rfl, ?_, rfl, rfl⟩
    simp
    exact List.take_of_length_le (by simp)
/-- A talk's copy. -/
theorem s_toSide (t : Side) (hl : t.sent.length ≤ 1048576) : Spec Try.prog 32 0 [] [t.ro] (New1 (t.av (.sl 0 0 t.sent.length)) 7 (t.sent.map Data.row)) := by
  refine Spec.new1 (Q := fun r hp _ _ => r = t.av (.sl 3 0 t.sent.length) ∧ hget hp 3 = some (.row 7 (t.sent.map Data.row))) ?_ (fun r hp nx gs h => ⟨3, by rw [h.1]; rfl, h.2⟩) (fun f g h => by simp only [Side.av, go_sem, h])
  refine mk32 rfl fun c hP hm => ?_
  unfold pc32 Side.ro Side.av
  simp only [go_sem, ↓reduceIte]
  refine call_new1 (hP ▸ s_toDataS t.sent hl) rfl (dataClosed _) (vws_self _ _ rfl) ?_
  simp only [go_sem, ↓reduceIte]
theorem s_eqSide (s : Side) : Spec Try.prog 35 0 [] [s.ro, s.ro] (fun r _ _ _ => r = .bo true) := by
  refine mk35 rfl fun c hP hm => ?_
  unfold pc35 Side.ro Side.av
  simp only [go_sem, ↓reduceIte]
  refine call_pure (hP ▸ s_eqDataS s.sent) rfl rfl ?_
  simp only [go_sem, ↓reduceIte]
theorem s_markSide (s : Side) (n : Int) (hn : 0 ≤ n ∧ n ≤ 1000) (hl : s.sent.length ≤ 4000000) : Spec Try.prog 36 1 [(0, .row 7 (s.sent.map Data.row))] [s.av (.sl 0 0 s.sent.length), .i n] (Named fun r B => r = .i (n + 7 * s.sent.length) ∧ B = .row 7 ((marks markData 7 s.sent.length n).map Data.row)) := by
  refine Spec.named ?_
  refine mk36 rfl fun c hP hm => ?_
  unfold pc36 Side.av
  simp only [go_sem, ↓reduceIte]
  refine call_named 0 (hP ▸ s_markDataS s.sent n hn hl) (by rfl) rfl (by rfl) ?_ ?_
  · rintro r B ⟨rfl, rfl⟩; exact ⟨rfl, rfl⟩
  · rintro r B ⟨rfl, rfl⟩
    simp only [go_sem, ↓reduceIte]
    exact ⟨_, rfl, rfl, rfl⟩
abbrev dataRow : List CT := [.i .i64, .i .i64, .i .i64, .b, .b, .b, .s]
abbrev sideRow : List CT := [.i .i64, .i .i64, .i .i64, .sl dataRow, .i .i64]
theorem data_of (r : List RV) (h : RowOk dataRow r) : ∃ d : Data, r = d.row ∧ d.text.length ≤ maxLen := by
  obtain ⟨x0, r, rfl, h0, h⟩ := rowOk_cons h
  obtain ⟨x1, r, rfl, h1, h⟩ := rowOk_cons h
  obtain ⟨x2, r, rfl, h2, h⟩ := rowOk_cons h
  obtain ⟨x3, r, rfl, h3, h⟩ := rowOk_cons h
  obtain ⟨x4, r, rfl, h4, h⟩ := rowOk_cons h
  obtain ⟨x5, r, rfl, h5, h⟩ := rowOk_cons h
  obtain ⟨x6, r, rfl, h6, h⟩ := rowOk_cons h
  obtain rfl := rowOk_nil h
  obtain ⟨n0, rfl, _⟩ := okc_i h0
  obtain ⟨n1, rfl, _⟩ := okc_i h1
  obtain ⟨n2, rfl, _⟩ := okc_i h2
  obtain ⟨n3, rfl⟩ := okc_b h3
  obtain ⟨n4, rfl⟩ := okc_b h4
  obtain ⟨n5, rfl⟩ := okc_b h5
  obtain ⟨n6, rfl, hl⟩ := okc_s h6
  exact ⟨⟨n0, n1, n2, n3, n4, n5, n6⟩, rfl, hl⟩
theorem side_of {xs : List RV} (h : RowOk sideRow xs) : ∃ s : Side, AV.agg (xs.map .r) = s.ro ∧ s.sent.length ≤ maxLen ∧ ∀ d ∈ s.sent, d.text.length ≤ maxLen := by
  obtain ⟨x0, r, rfl, h0, h⟩ := rowOk_cons h
  obtain ⟨x1, r, rfl, h1, h⟩ := rowOk_cons h
  obtain ⟨x2, r, rfl, h2, h⟩ := rowOk_cons h
  obtain ⟨x3, r, rfl, h3, h⟩ := rowOk_cons h
  obtain ⟨x4, r, rfl, h4, h⟩ := rowOk_cons h
  obtain rfl := rowOk_nil h
  obtain ⟨n0, rfl, _⟩ := okc_i h0
  obtain ⟨n1, rfl, _⟩ := okc_i h1
  obtain ⟨n2, rfl, _⟩ := okc_i h2
  obtain ⟨L, rfl, hL, hrows⟩ := okc_sl h3
  obtain ⟨n4, rfl, _⟩ := okc_i h4
  obtain ⟨l, rfl, hl⟩ := rows_of data_of hrows
  exact ⟨⟨n0, n1, n2, l, n4⟩, rfl, by simpa using hL, hl⟩
end Go.Cap
