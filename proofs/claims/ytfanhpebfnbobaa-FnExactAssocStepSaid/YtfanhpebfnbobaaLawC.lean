import Derived.Test.YtfanhpebfnbobaaEngC
import Derived.Test.YtfanhpebfnbobaaLawB
import Derived.Test.YtfanhpebfnbobaaPc
/- Contracts: a law's own copies, sizes, marks and equality of associations, packets and numbers. -/
namespace Go.Cap
open Go Go.Proofs
set_option maxRecDepth 100000
set_option linter.unusedSimpArgs false
set_option linter.unusedVariables false
attribute [local irreducible] Call Run Spec Le

theorem s_toAssoc (a : Assoc) (ha : a.a.sent.length ≤ 1048576) (hb : a.b.sent.length ≤ 1048576) : Spec Try.prog 23 0 [] [a.ro] (New2 (.agg (a.cells3 0 1)) 7 (a.a.sent.map Data.row) 7 (a.b.sent.map Data.row)) := by
  refine Spec.new2 (Q := fun r hp _ _ => ∃ b b1, b ≠ b1 ∧ r = .agg (a.cells3 b b1) ∧ hget hp b = some (.row 7 (a.a.sent.map Data.row)) ∧ hget hp b1 = some (.row 7 (a.b.sent.map Data.row))) ?_ (fun r hp nx gs h => h) (fun f g h1 h2 => by unfold Assoc.cells3; simp only [go_sem, h1, h2])
  have h1 := s_toSide a.a ha
  have h2 := s_toSide a.b hb
  unfold Side.ro Side.av at h1 h2
  refine mk23 rfl fun c hP hm => ?_
  unfold pc23 Assoc.ro Assoc.av
  simp only [hm, go_sem, ↓reduceIte]
  refine call_new1 (hP ▸ h1) rfl (dataClosed _) (vws_self _ _ rfl) ?_
  simp only [hm, go_sem, ↓reduceIte]
  refine call_new1 (hP ▸ h2) rfl (dataClosed _) (vws_self _ _ rfl) ?_
  simp only [hm, go_sem, ↓reduceIte]
  exact ⟨3, 4, by decide, rfl, rfl, rfl⟩
theorem chunkClosed (l : List Chunk) : closL2 (l.map Chunk.row) := closL2_map (fun s x hx => by
  simp only [Chunk.row, List.mem_cons, List.not_mem_nil, or_false] at hx
  rcases hx with rfl | rfl | rfl <;> rfl) l
theorem s_toChunk (x : Chunk) : Spec Try.prog 125 0 [] [x.av] (fun r _ _ _ => r = x.av) := by
  refine mk125 rfl fun c hP hm => ?_
  unfold pc125 Chunk.av
  simp only [hm, go_sem, ↓reduceIte]
theorem s_toChunkS (l : List Chunk) (hl : l.length ≤ 1048576) : Spec Try.prog 62 0 [] [.r (.ro none (l.map Chunk.row))] (New1 (.sl 0 0 l.length) 3 (l.map Chunk.row)) := by
  refine mk62 rfl fun c hP hm => ?_
  unfold pc62
  simp only [go_sem, ↓reduceIte]
  simp only [Int.toNat_natCast]
  intro _
  refine ⟨⟨by omega, by omega⟩, ?_⟩
  refine lp_wpc (α := Nat) (fun i => ⟨[(0, .r (.ro none (l.map Chunk.row))), (3, .sl 0 0 l.length), (4, .i i)], [(0, .row 3 ((l.map Chunk.row).take i ++ List.replicate ((l.map Chunk.row).length - i) [.n .i64 0, .n .i64 0, .s []]))], 1, []⟩)
    (fun i => i ≤ l.length) (fun i => l.length - i) 0 (Nat.zero_le _) (le_eq (by simp)) ?_
  intro i hi
  unfold pc62l0
  simp only [go_sem, ↓reduceIte]
  intro _
  refine ⟨fun hlt => ?_, fun hge => ?_⟩
  · have hil : i < l.length := by omega
    simp only [Int.toNat_natCast, getD_map hil, Chunk.row, go_sem, ↓reduceIte]
    refine ⟨⟨by omega, by omega⟩, ?_⟩
    refine call_pure (hP ▸ s_toChunk l[i]) rfl rfl ?_
    simp only [Chunk.av, go_sem, ↓reduceIte, Int.toNat_natCast]
    refine ⟨⟨by omega, by omega⟩, ?_, i + 1, hil, by omega, le_eq ?_⟩
    · simp; omega
    · have h1 := fill_set (M := l.map Chunk.row) (z := [.n .i64 0, .n .i64 0, .s []]) (i := i) (by simpa using hil)
      simp only [List.getElem_map, Chunk.row, List.length_map] at h1
      try simp only [List.length_map]
      rw [wrap64 (by omega) (by omega), ← h1]
      rfl
  · have : i = l.length := by omega
    subst this
    refine ⟨rfl, ?_, rfl, rfl⟩
    simp
    exact List.take_of_length_le (by simp)
def Packet.avS (p : Packet) (x : AV) : AV := .agg [.i p.fr, .i p.to, .i p.tag, x]
theorem s_toPacket (p : Packet) (hl : p.chunks.length ≤ 1048576) : Spec Try.prog 24 0 [] [p.ro] (New1 (p.avS (.sl 0 0 p.chunks.length)) 3 (p.chunks.map Chunk.row)) := by
  refine Spec.new1 (Q := fun r hp _ _ => ∃ b, r = p.avS (.sl b 0 p.chunks.length) ∧ hget hp b = some (.row 3 (p.chunks.map Chunk.row))) ?_ (fun r hp nx gs h => by obtain ⟨b, h1, h2⟩ := h; exact ⟨b, by rw [h1]; rfl, h2⟩) (fun f g h => by simp only [Packet.avS, go_sem, h])
  refine mk24 rfl fun c hP hm => ?_
  unfold pc24 Packet.ro Packet.avS
  simp only [hm, go_sem, ↓reduceIte]
  refine call_new1 (hP ▸ s_toChunkS p.chunks hl) rfl (chunkClosed _) (vws_self _ _ rfl) ?_
  simp only [hm, go_sem, ↓reduceIte]
  exact ⟨3, rfl, rfl⟩
def szChunks (l : List Chunk) (left : Int) : Int := if left - l.length < 0 then -1 else szTexts (l.map fun s => (s.body.length : Int)) (left - l.length)
theorem s_szChunk (s : Chunk) (left : Int) (h : 0 ≤ left ∧ left ≤ 1048576) (ht : (s.body.length : Int) ≤ 9223372036854775807) : Spec Try.prog 115 0 [] [s.av, .i left] (fun r _ _ _ => r = .i (szText s.body.length left)) := by
  refine mk115 rfl fun c hP hm => ?_
  unfold pc115 Chunk.av
  simp only [go_sem, ↓reduceIte]
  rw [wrap64 (by omega) (by omega)]
  unfold szText
  refine ⟨fun h => ?_, fun h => ?_⟩
  · rw [if_pos h]
  · rw [if_neg (by omega)]
theorem s_szChunkS (l : List Chunk) (left : Int) (h : 0 ≤ left ∧ left ≤ 1048576) (hl : (l.length : Int) ≤ 9223372036854775807) (ht : ∀ s ∈ l, (s.body.length : Int) ≤ 9223372036854775807) :
    Spec Try.prog 56 0 [] [.r (.ro none (l.map Chunk.row)), .i left] (fun r _ _ _ => r = .i (szChunks l left)) := by
  refine mk56 rfl fun c hP hm => ?_
  unfold pc56
  simp only [go_sem, ↓reduceIte]
  intro _
  rw [wrap64 (by omega) (by omega)]
  unfold szChunks
  refine ⟨fun h => ?_, fun h => ?_⟩
  · rw [if_pos h]
  · rw [if_neg (by omega)]
    refine lp_wpc (α := Nat × Int) (fun y => ⟨[(0, .r (.ro none (l.map Chunk.row))), (1, .i y.2), (5, .i y.1)], [], 0, []⟩)
      (fun y => y.1 ≤ l.length ∧ 0 ≤ y.2 ∧ y.2 ≤ 1048576 ∧ szTexts ((l.map fun s => (s.body.length : Int)).drop y.1) y.2 = szTexts (l.map fun s => (s.body.length : Int)) (left - l.length)) (fun y => l.length - y.1) (0, left - l.length)
      ⟨Nat.zero_le _, by omega, by omega, rfl⟩ (Le.refl _) ?_
    rintro ⟨i, x⟩ ⟨hi, hx0, hx1, hx⟩
    unfold pc56l0
    simp only [go_sem, ↓reduceIte]
    intro _
    refine ⟨fun hlt => ?_, fun hge => ?_⟩
    · have hil : i < l.length := by omega
      rw [szTexts_drop (by simpa using hil)] at hx
      simp only [List.getElem_map] at hx
      simp only [Int.toNat_natCast, getD_map hil, Chunk.row, go_sem, ↓reduceIte]
      refine ⟨⟨by omega, by omega⟩, ?_⟩
      refine call_pure (hP ▸ s_szChunk l[i] x ⟨hx0, hx1⟩ (ht _ (List.getElem_mem hil))) rfl rfl ?_
      simp only [go_sem, ↓reduceIte]
      refine ⟨fun hneg => ?_, fun hpos => ?_⟩
      · rw [if_pos hneg] at hx; rw [← hx]
      · rw [if_neg (by omega)] at hx
        rw [wrap64 (by omega) (by omega)]
        have := szText_le l[i].body.length x (by omega)
        exact ⟨(i + 1, szText l[i].body.length x), ⟨hil, by omega, by omega, hx⟩, by simp only; omega, Le.refl _⟩
    · have : i = l.length := by omega
      subst this
      rw [List.drop_eq_nil_of_le (by simp)] at hx
      rw [← hx]; rfl
def szP (p : Packet) (left : Int) : Int := if szChunks p.chunks left < 0 then -1 else szChunks p.chunks left
def PLen (p : Packet) : Prop := p.chunks.length ≤ 9223372036854775807 ∧ ∀ d ∈ p.chunks, d.body.length ≤ 9223372036854775807
theorem s_szPacket (p : Packet) (left : Int) (h : 0 ≤ left ∧ left ≤ 1048576) (hp : PLen p) : Spec Try.prog 21 0 [] [p.ro, .i left] (fun r _ _ _ => r = .i (szP p left)) := by
  obtain ⟨hl, ht⟩ := hp
  refine mk21 rfl fun c hP hm => ?_
  unfold pc21 Packet.ro
  simp only [go_sem, ↓reduceIte]
  refine call_pure (hP ▸ s_szChunkS p.chunks left h (by omega) (fun s hs => by have := ht s hs; omega)) rfl rfl ?_
  unfold szP
  simp only [go_sem, ↓reduceIte]
  refine ⟨fun h => ?_, fun h => ?_⟩
  · rw [if_pos h]
  · rw [if_neg (by omega)]
theorem szP_fit {p : Packet} {left : Int} (hl : left ≤ 1048576) (h : 0 ≤ szP p left) : p.chunks.length ≤ 1048576 := by
  unfold szP szChunks at h
  by_cases h0 : left - p.chunks.length < 0
  · simp [h0] at h
  · omega
theorem s_eqChunk (x : Chunk) : Spec Try.prog 131 0 [] [x.av, x.av] (fun r _ _ _ => r = .bo true) := by
  refine mk131 rfl fun c hP hm => ?_
  unfold pc131 Chunk.av
  simp only [go_sem, ↓reduceIte]
theorem s_eqChunkS (l : List Chunk) : Spec Try.prog 69 0 [] [.r (.ro none (l.map Chunk.row)), .r (.ro none (l.map Chunk.row))] (fun r _ _ _ => r = .bo true) := by
  refine mk69 rfl fun c hP hm => ?_
  unfold pc69
  simp only [go_sem, ↓reduceIte]
  intro hlen _
  refine lp_wpc (α := Nat) (fun i => ⟨[(0, .r (.ro none (l.map Chunk.row))), (1, .r (.ro none (l.map Chunk.row))), (5, .i i)], [], 0, []⟩) (fun i => i ≤ l.length) (fun i => l.length - i) 0 (Nat.zero_le _) (Le.refl _) ?_
  intro i hi
  unfold pc69l0
  simp only [go_sem, ↓reduceIte]
  intro _
  intro hlt
  have hil : i < l.length := by omega
  simp only [Int.toNat_natCast, getD_map hil, Chunk.row, go_sem, ↓reduceIte]
  refine ⟨⟨by omega, by omega⟩, ⟨by omega, by omega⟩, ?_⟩
  refine call_pure (hP ▸ s_eqChunk l[i]) rfl rfl ?_
  simp only [go_sem, ↓reduceIte]
  rw [wrap64 (by omega) (by omega)]
  exact ⟨i + 1, hil, by omega, Le.refl _⟩
theorem s_eqPacket (p : Packet) : Spec Try.prog 28 0 [] [p.ro, p.ro] (fun r _ _ _ => r = .bo true) := by
  refine mk28 rfl fun c hP hm => ?_
  unfold pc28 Packet.ro
  simp only [go_sem, ↓reduceIte]
  refine call_pure (hP ▸ s_eqChunkS p.chunks) rfl rfl ?_
  simp only [go_sem, ↓reduceIte]
def markChunk (n : Int) : Chunk := ⟨n, n + 1, markT (n + 2)⟩
theorem s_markChunkS (l : List Chunk) (n : Int) (hn : 0 ≤ n ∧ n ≤ 100000000) (hl : l.length ≤ 4000000) : Spec Try.prog 71 1 [(0, .row 3 (l.map Chunk.row))] [.sl 0 0 l.length, .i n] (Named fun r B => r = .i (n + 3 * l.length) ∧ B = .row 3 ((marks markChunk 3 l.length n).map Chunk.row)) := by
  refine Spec.named ?_
  refine mk71 rfl fun c hP hm => ?_
  unfold pc71
  simp only [go_sem, ↓reduceIte]
  refine run_exit 0 (fun t0 => t0 = ⟨[(1, .i (n + 3 * l.length))], [(0, .row 3 ((marks markChunk 3 l.length n).map Chunk.row))], 1, []⟩) ?_ (fun t0 h => by rw [h]; simp only [go_sem, ↓reduceIte]; exact ⟨_, rfl, rfl, rfl⟩)
  refine lp_wpc (α := Nat) (fun i => ⟨[(0, .sl 0 0 l.length), (1, .i (n + 3 * i)), (5, .i i)], [(0, .row 3 ((marks markChunk 3 i n).map Chunk.row ++ (l.drop i).map Chunk.row))], 1, []⟩) (fun i => i ≤ l.length) (fun i => l.length - i) 0 (Nat.zero_le _) (le_eq (by simp [marks])) ?_
  intro i hi
  unfold pc71l0
  rcases Nat.lt_or_ge i l.length with hil | hil
  · have hM : ((marks markChunk 3 i n).map Chunk.row).length = i := by rw [List.length_map, marks_len]
    have hA := congrArg (List.map Chunk.row) (marks_succ markChunk 3 i n)
    rw [List.map_append, List.map_cons, List.map_nil] at hA
    rw [mid_drop hil]
    generalize (marks markChunk 3 i n).map Chunk.row = A at hM hA
    have hBl : ((l.drop (i + 1)).map Chunk.row).length = l.length - (i + 1) := by simp
    generalize hB : (l.drop (i + 1)).map Chunk.row = B at hBl
    simp only [Int.toNat_natCast, mid_get hM, mid_set hM, mid_len, Chunk.row, go_sem, ↓reduceIte]
    simp (disch := omega) only [wrap64]
    intro _
    refine ⟨fun hlt => ?_, fun hge => absurd hge (by omega)⟩
    repeat' refine And.intro ?_ ?_
    all_goals first
      | omega
      | (refine call_pure (hP ▸ s_markText _ (by omega)) rfl rfl ?_
         simp only [Int.toNat_natCast, mid_get hM, mid_set hM, mid_len, go_sem, ↓reduceIte]
         simp (disch := omega) only [wrap64]
         refine ⟨⟨by omega, by omega⟩, by omega, i + 1, hil, by omega, le_ev [] ?_⟩
         rw [hA, hB]
         simp only [hm, markChunk, Chunk.row, List.append_assoc, Int.natCast_add, Int.mul_add, Int.add_assoc, Int.reduceAdd, go_sem, ↓reduceIte]
         rfl)
  · have : i = l.length := by omega
    subst this
    simp only [go_sem, ↓reduceIte]
    exact fun _ => ⟨_, rfl, le_ev [] (by simp only [hm, List.drop_length, go_sem, ↓reduceIte])⟩
theorem s_markPacket (p : Packet) (n : Int) (hn : 0 ≤ n ∧ n ≤ 100000000) (hl : p.chunks.length ≤ 4000000) : Spec Try.prog 30 1 [(0, .row 3 (p.chunks.map Chunk.row))] [p.avS (.sl 0 0 p.chunks.length), .i n] (Named fun r B => r = .i (n + 3 * p.chunks.length) ∧ B = .row 3 ((marks markChunk 3 p.chunks.length n).map Chunk.row)) := by
  refine Spec.named ?_
  refine mk30 rfl fun c hP hm => ?_
  unfold pc30 Packet.avS
  simp only [go_sem, ↓reduceIte]
  refine call_named 0 (hP ▸ s_markChunkS p.chunks n hn hl) (by rfl) rfl (by rfl) ?_ ?_
  · rintro r B ⟨rfl, rfl⟩; exact ⟨rfl, rfl⟩
  · rintro r B ⟨rfl, rfl⟩
    simp only [go_sem, ↓reduceIte]
    exact ⟨_, rfl, rfl, rfl⟩
/-- Numbers. -/
theorem s_eqIntS (l : List Int) : Spec Try.prog 27 0 [] [.r (.ro none (l.map intRow)), .r (.ro none (l.map intRow))] (fun r _ _ _ => r = .bo true) := by
  refine mk27 rfl fun c hP hm => ?_
  unfold pc27
  simp only [go_sem, ↓reduceIte]
  intro hlen _
  refine lp_wpc (α := Nat) (fun i => ⟨[(0, .r (.ro none (l.map intRow))), (1, .r (.ro none (l.map intRow))), (5, .i i)], [], 0, []⟩) (fun i => i ≤ l.length) (fun i => l.length - i) 0 (Nat.zero_le _) (Le.refl _) ?_
  intro i hi
  unfold pc27l0
  rcases Nat.lt_or_ge i l.length with hil | hil
  · simp only [Int.toNat_natCast, getD_map hil, intRow, go_sem, ↓reduceIte]
    intro _ hlt
    refine ⟨⟨by omega, by omega⟩, ⟨by omega, by omega⟩, ?_⟩
    rw [wrap64 (by omega) (by omega)]
    exact ⟨i + 1, hil, by omega, Le.refl _⟩
  · simp only [go_sem, ↓reduceIte]
    intro _ _
    omega
theorem s_markIntS (l : List Int) (n : Int) (hn : 0 ≤ n ∧ n ≤ 100000000) (hl : l.length ≤ 4000000) : Spec Try.prog 31 1 [(0, .row 1 (l.map intRow))] [.sl 0 0 l.length, .i n] (Named fun r B => r = .i (n + 1 * l.length) ∧ B = .row 1 ((marks id 1 l.length n).map intRow)) := by
  refine Spec.named ?_
  refine mk31 rfl fun c hP hm => ?_
  unfold pc31
  simp only [go_sem, ↓reduceIte]
  refine run_exit 0 (fun t0 => t0 = ⟨[(1, .i (n + 1 * l.length))], [(0, .row 1 ((marks id 1 l.length n).map intRow))], 1, []⟩) ?_ (fun t0 h => by rw [h]; simp only [go_sem, ↓reduceIte]; exact ⟨_, rfl, rfl, rfl⟩)
  refine lp_wpc (α := Nat) (fun i => ⟨[(0, .sl 0 0 l.length), (1, .i (n + 1 * i)), (5, .i i)], [(0, .row 1 ((marks id 1 i n).map intRow ++ (l.drop i).map intRow))], 1, []⟩) (fun i => i ≤ l.length) (fun i => l.length - i) 0 (Nat.zero_le _) (le_eq (by simp [marks])) ?_
  intro i hi
  unfold pc31l0
  rcases Nat.lt_or_ge i l.length with hil | hil
  · have hM : ((marks id 1 i n).map intRow).length = i := by rw [List.length_map, marks_len]
    have hA := congrArg (List.map intRow) (marks_succ id 1 i n)
    rw [List.map_append, List.map_cons, List.map_nil] at hA
    rw [mid_drop hil]
    generalize (marks id 1 i n).map intRow = A at hM hA
    have hBl : ((l.drop (i + 1)).map intRow).length = l.length - (i + 1) := by simp
    generalize hB : (l.drop (i + 1)).map intRow = B at hBl
    simp only [Int.toNat_natCast, mid_get hM, mid_set hM, mid_len, intRow, go_sem, ↓reduceIte]
    simp (disch := omega) only [wrap64]
    intro _
    refine ⟨fun hlt => ?_, fun hge => absurd hge (by omega)⟩
    repeat' refine And.intro ?_ ?_
    all_goals first
      | omega
      | (refine ⟨i + 1, hil, by omega, le_ev [] ?_⟩
         rw [hA, hB]
         simp only [hm, id, intRow, List.append_assoc, Int.natCast_add, Int.mul_add, Int.one_mul, Int.add_assoc, Int.reduceAdd, go_sem, ↓reduceIte]
         done)
  · have : i = l.length := by omega
    subst this
    simp only [go_sem, ↓reduceIte]
    exact fun _ => ⟨_, rfl, le_ev [] (by simp only [hm, List.drop_length, go_sem, ↓reduceIte])⟩
theorem s_markIntS_nil (n : Int) : Spec Try.prog 31 0 [] [.r .nil, .i n] (fun r _ _ _ => r = .i n) := by
  refine mk31 rfl fun c hP hm => ?_
  unfold pc31
  simp only [go_sem, ↓reduceIte]
  refine lp_wpc (α := Unit) (fun _ => ⟨[(0, .r .nil), (1, .i n), (5, .i 0)], [], 0, []⟩) (fun _ => True) (fun _ => 0) () trivial (Le.refl _) ?_
  intro i hi
  unfold pc31l0
  simp only [go_sem, ↓reduceIte]
theorem s_heldIntS (k : Nat) (n : Int) (hn : 0 ≤ n ∧ n ≤ 100000000) (hk : k ≤ 1000000) : Spec Try.prog 33 0 [] [.r (.ro none ((marks id 1 k n).map intRow)), .i n] (fun r _ _ _ => r = .i (n + 1 * k)) := by
  refine mk33 rfl fun c hP hm => ?_
  unfold pc33
  simp only [go_sem, ↓reduceIte]
  have hlen : (marks id 1 k n).length = k := marks_len ..
  refine lp_wpc (α := Nat) (fun i => ⟨[(0, .r (.ro none ((marks id 1 k n).map intRow))), (1, .i (n + 1 * i)), (5, .i i)], [], 0, []⟩) (fun i => i ≤ k) (fun i => k - i) 0 (Nat.zero_le _) (le_eq (by simp)) ?_
  intro i hi
  unfold pc33l0
  rcases Nat.lt_or_ge i k with hik | hik
  · have hil : i < (marks id 1 k n).length := by omega
    have hg : (marks id 1 k n)[i] = id (n + 1 * i) := by
      have := marks_get id 1 n hik
      rw [List.getElem?_eq_getElem hil] at this
      exact Option.some.inj this
    simp only [Int.toNat_natCast, getD_map hil, hg, hlen, id, intRow, go_sem, ↓reduceIte]
    simp (disch := omega) only [wrap64]
    repeat' first | refine And.intro ?_ ?_ | intro _
    all_goals first
      | omega
      | exact ⟨i + 1, hik, by omega, le_eq (by simp only [Int.natCast_add, Int.mul_add, Int.one_mul, Int.add_assoc, Int.reduceAdd]; rfl)⟩
  · have : i = k := by omega
    subst this
    simp only [hlen, go_sem, ↓reduceIte]
/-- Associations. -/
def markA (a : Assoc) (n : Int) : AV → Blk → Blk → Prop := fun r B B1 => r = .i (n + 7 * a.a.sent.length + 7 * a.b.sent.length) ∧ B = .row 7 ((marks markData 7 a.a.sent.length n).map Data.row) ∧ B1 = .row 7 ((marks markData 7 a.b.sent.length (n + 7 * a.a.sent.length)).map Data.row)
theorem s_markAssoc (a : Assoc) (n : Int) (hn : 0 ≤ n ∧ n ≤ 10000000) (ha : a.a.sent.length ≤ 4000000) (hb : a.b.sent.length ≤ 4000000) : Spec Try.prog 29 2 [(0, rowsD a.a.sent), (1, rowsD a.b.sent)] [.agg (a.cells3 0 1), .i n] (Named2 (markA a n)) := by
  refine Spec.named2 ?_
  have h1 := s_markSide a.a n (by omega) ha
  have h2 := s_markSide a.b (n + 7 * a.a.sent.length) (by omega) hb
  unfold Side.av at h1 h2
  unfold markA
  refine mk29 rfl fun c hP hm => ?_
  unfold pc29 Assoc.cells3 rowsD
  simp only [hm, go_sem, ↓reduceIte]
  refine call_named 0 (hP ▸ h1) (by rfl) rfl (by rfl) ?_ ?_
  · rintro r B ⟨rfl, rfl⟩; exact ⟨rfl, rfl⟩
  rintro r B ⟨rfl, rfl⟩
  simp only [hm, go_sem, ↓reduceIte]
  refine call_named 1 (hP ▸ h2) (by rfl) rfl (by rfl) ?_ ?_
  · rintro r B ⟨rfl, rfl⟩; exact ⟨rfl, rfl⟩
  rintro r B ⟨rfl, rfl⟩
  simp only [hm, go_sem, ↓reduceIte]
  exact ⟨_, _, rfl, rfl, rfl, rfl, rfl, rfl⟩
theorem s_markSide_nil (n : Int) : Spec Try.prog 70 0 [] [.agg [.i 0, .i 0, .i 0, .r .nil, .i 0], .i n] (fun r _ _ _ => r = .i n) := by
  refine mk70 rfl fun c hP hm => ?_
  unfold pc70
  simp only [hm, go_sem, ↓reduceIte]
  refine call_pure (hP ▸ s_markDataS_nil n) rfl rfl ?_
  simp only [hm, go_sem, ↓reduceIte]
theorem s_markAssoc_nil (n : Int) : Spec Try.prog 29 0 [] [.agg zeroC, .i n] (fun r _ _ _ => r = .i n) := by
  refine mk29 rfl fun c hP hm => ?_
  unfold pc29 zeroC
  simp only [hm, go_sem, ↓reduceIte]
  refine call_pure (hP ▸ s_markSide_nil n) rfl rfl ?_
  simp only [hm, go_sem, ↓reduceIte]
  refine call_pure (hP ▸ s_markSide_nil n) rfl rfl ?_
  simp only [hm, go_sem, ↓reduceIte]
/-- An association with marked rows. -/
def Assoc.marked (a : Assoc) (k j : Nat) (n : Int) : Assoc := ⟨a.fr, a.to, a.state, a.byB, { a.a with sent := marks markData 7 k n }, { a.b with sent := marks markData 7 j (n + 7 * k) }⟩
theorem s_heldSide (t : Side) (k : Nat) (n : Int) (hn : 0 ≤ n ∧ n ≤ 100000000) (hk : k ≤ 1000000) (ht : t.sent = marks markData 7 k n) : Spec Try.prog 72 0 [] [t.ro, .i n] (fun r _ _ _ => r = .i (n + 7 * k)) := by
  refine mk72 rfl fun c hP hm => ?_
  unfold pc72 Side.ro Side.av
  rw [ht]
  simp only [hm, go_sem, ↓reduceIte]
  refine call_pure (hP ▸ s_heldDataS k n hn hk) rfl rfl ?_
  simp only [hm, go_sem, ↓reduceIte]
  omega
theorem s_heldAssoc (a : Assoc) (k j : Nat) (n : Int) (hn : 0 ≤ n ∧ n ≤ 10000000) (hk : k ≤ 1000000) (hj : j ≤ 1000000) : Spec Try.prog 32 0 [] [(a.marked k j n).ro, .i n] (fun r _ _ _ => r = .i (n + 7 * k + 7 * j)) := by
  have h1 := s_heldSide (a.marked k j n).a k n (by omega) hk rfl
  have h2 := s_heldSide (a.marked k j n).b j (n + 7 * k) (by omega) hj rfl
  generalize a.marked k j n = x at h1 h2
  unfold Side.ro Side.av at h1 h2
  refine mk32 rfl fun c hP hm => ?_
  unfold pc32 Assoc.ro Assoc.av
  simp only [hm, go_sem, ↓reduceIte]
  refine call_pure (hP ▸ h1) rfl rfl ?_
  simp only [hm, go_sem, ↓reduceIte]
  refine ⟨fun h => by omega, fun _ => ?_⟩
  refine call_pure (hP ▸ h2) rfl rfl ?_
  simp only [hm, go_sem, ↓reduceIte]
  omega
abbrev chunkRow : List CT := [.i .i64, .i .i64, .s]
abbrev packetRow : List CT := [.i .i64, .i .i64, .i .i64, .sl chunkRow]
theorem chunk_of (r : List RV) (h : RowOk chunkRow r) : ∃ d : Chunk, r = d.row ∧ d.body.length ≤ maxLen := by
  obtain ⟨x0, r, rfl, h0, h⟩ := rowOk_cons h
  obtain ⟨x1, r, rfl, h1, h⟩ := rowOk_cons h
  obtain ⟨x2, r, rfl, h2, h⟩ := rowOk_cons h
  obtain rfl := rowOk_nil h
  obtain ⟨n0, rfl, _⟩ := okc_i h0
  obtain ⟨n1, rfl, _⟩ := okc_i h1
  obtain ⟨n2, rfl, hl⟩ := okc_s h2
  exact ⟨⟨n0, n1, n2⟩, rfl, hl⟩
theorem packet_of {xs : List RV} (h : RowOk packetRow xs) : ∃ p : Packet, AV.agg (xs.map .r) = p.ro ∧ PLen p := by
  obtain ⟨x0, r, rfl, h0, h⟩ := rowOk_cons h
  obtain ⟨x1, r, rfl, h1, h⟩ := rowOk_cons h
  obtain ⟨x2, r, rfl, h2, h⟩ := rowOk_cons h
  obtain ⟨x3, r, rfl, h3, h⟩ := rowOk_cons h
  obtain rfl := rowOk_nil h
  obtain ⟨n0, rfl, _⟩ := okc_i h0
  obtain ⟨n1, rfl, _⟩ := okc_i h1
  obtain ⟨n2, rfl, _⟩ := okc_i h2
  obtain ⟨L, rfl, hL, hrows⟩ := okc_sl h3
  obtain ⟨l, rfl, hl⟩ := rows_of chunk_of hrows
  have e : maxLen = 9223372036854775807 := by decide
  rw [e] at hL hl
  exact ⟨⟨n0, n1, n2, l⟩, rfl, by simpa using hL, hl⟩
theorem assoc_arg {xs : List RV} (h : RowOk assocRow xs) : ∃ a : Assoc, AV.agg (xs.map .r) = a.ro ∧ ALen a := by
  obtain ⟨a, rfl, ha⟩ := assoc_of xs h
  exact ⟨a, rfl, ha⟩
end Go.Cap

/- Contracts: what the program's step of an association returns, own; views of associations and packets. -/
namespace Go.Cap
open Go Go.Proofs
set_option maxRecDepth 100000
set_option linter.unusedSimpArgs false
set_option linter.unusedVariables false
attribute [local irreducible] Call Run Spec Le

theorem s_implAssocStepA (a : Assoc) (p : Packet) (ha : SFit a.a) (hb : SFit a.b) (h : assocStep a p = (noAssoc, [])) : Spec Try.prog 25 0 [] [a.ro, p.ro] (fun r _ _ _ => r = .tup [.agg zeroC, .r .nil]) := by
  refine Spec.le (s_implAssocStep0 a p ha hb) fun r hp nx gs hq => ⟨_, [], 0, [], rfl, fun c hc => ?_⟩
  obtain ⟨hq⟩ := hq
  rcases hq with ⟨_, rfl⟩ | ⟨b, b1, hne, _⟩ | ⟨b, b1, b2, _, hn, _⟩
  · unfold zeroC
    exact le_ev [] (by simp only [hc, go_sem, ↓reduceIte])
  · exact absurd h hne.2
  · rw [h] at hn; exact absurd rfl hn
theorem s_implAssocStepB (a : Assoc) (p : Packet) (ha : SFit a.a) (hb : SFit a.b) (h : assocStep a p ≠ (noAssoc, [])) (h2 : (assocStep a p).2 = []) : Spec Try.prog 25 0 [] [a.ro, p.ro] (New2 (.tup [.agg ((assocStep a p).1.cells3 0 1), .r .nil]) 7 ((assocStep a p).1.a.sent.map Data.row) 7 ((assocStep a p).1.b.sent.map Data.row)) := by
  refine Spec.new2 (s_implAssocStep0 a p ha hb) ?_ (fun f g h1 h2 => by unfold Assoc.cells3; simp only [go_sem, h1, h2])
  rintro r hp nx gs ⟨hq⟩
  rcases hq with ⟨e, rfl⟩ | ⟨b, b1, hne, _, rfl, g0, g1⟩ | ⟨b, b1, b2, _, hn, _⟩
  · exact absurd e h
  · exact ⟨b, b1, hne.1, rfl, g0, g1⟩
  · exact absurd h2 hn
theorem s_implAssocStepC (a : Assoc) (p : Packet) (ha : SFit a.a) (hb : SFit a.b) (h2 : (assocStep a p).2 ≠ []) : Spec Try.prog 25 0 [] [a.ro, p.ro] (New3 (.tup [.agg ((assocStep a p).1.cells3 0 1), .sl 2 0 (assocStep a p).2.length]) 7 ((assocStep a p).1.a.sent.map Data.row) 7 ((assocStep a p).1.b.sent.map Data.row) 1 ((assocStep a p).2.map intRow)) := by
  refine Spec.new3 (s_implAssocStep0 a p ha hb) ?_ (fun f g h1 h2 h3 => by unfold Assoc.cells3; simp only [go_sem, h1, h2, h3])
  rintro r hp nx gs ⟨hq⟩
  rcases hq with ⟨e, rfl⟩ | ⟨b, b1, hne, e, _⟩ | ⟨b, b1, b2, hne, hn, rfl, g0, g1, g2⟩
  · rw [e] at h2; exact absurd rfl h2
  · exact absurd e h2
  · exact ⟨b, b1, b2, hne, rfl, g0, g1, g2⟩
theorem assocStep_fit (a : Assoc) (p : Packet) (h : assocStep a p ≠ (noAssoc, [])) : AW (assocStep a p).1 := by
  unfold assocStep at h ⊢
  split at h
  · exact absurd rfl h
  · rename_i hc
    rw [if_neg hc]
    simp only [Bool.or_eq_true, Bool.not_eq_true', not_or, Bool.not_eq_false] at hc
    obtain ⟨⟨h1, h2⟩, _⟩ := hc
    simp only
    split
    · exact assocB_AW (stepChunks_valid _ _ _ _ h1)
    · exact assocB_AW h1
theorem step_rules (a : Assoc) (p : Packet) : (assocStep a p).2.length ≤ 12 := by
  have hr : ∀ b, (rulesOf b).length ≤ 12 := fun b => by
    unfold rulesOf
    rw [List.length_map]
    exact Nat.le_trans (List.length_filter_le _ _) (by simp)
  unfold assocStep
  split
  · simp
  · exact hr _
theorem vw_assoc {hp : List (Nat × Blk)} {b b1 : Nat} {a : Assoc} {cs : List AV} (hc : cs = a.cells3 b b1) (h : hget hp b = some (.row 7 (a.a.sent.map Data.row))) (h1 : hget hp b1 = some (.row 7 (a.b.sent.map Data.row))) : Vw hp (.agg cs) a.ro := by
  subst hc
  exact vw_agg (.cons (.r _) (.cons (.r _) (.cons (.r _) (.cons (.r _) (.cons (.r _) (.cons (.r _) (.cons (.r _) (.cons (Vw.full h (by simp)) (.cons (.r _) (.cons (.r _) (.cons (.r _) (.cons (.r _) (.cons (Vw.full h1 (by simp)) (.cons (.r _) .nil))))))))))))))
theorem vw_packet {hp : List (Nat × Blk)} {b : Nat} {p : Packet} (h : hget hp b = some (.row 3 (p.chunks.map Chunk.row))) : Vw hp (.agg [.i p.fr, .i p.to, .i p.tag, .sl b 0 p.chunks.length]) p.ro :=
  vw_agg (.cons (.r _) (.cons (.r _) (.cons (.r _) (.cons (Vw.full h (by simp)) .nil))))
theorem vw_zero {hp : List (Nat × Blk)} : Vw hp (.agg zeroC) noAssoc.ro :=
  vw_agg (.cons (.r _) (.cons (.r _) (.cons (.r _) (.cons (.r _) (.cons (.r _) (.cons (.r _) (.cons (.r _) (.cons Vw.nil (.cons (.r _) (.cons (.r _) (.cons (.r _) (.cons (.r _) (.cons Vw.nil (.cons (.r _) .nil))))))))))))))
theorem s_toChunkSP (l : List Chunk) (hl : l.length ≤ 1048576) : Spec Try.prog 62 0 [] [.r (.ro none (l.map Chunk.row))] (Plain fun r => r = .r (.ro none (l.map Chunk.row))) := by
  have := s_toChunkS l hl
  rw [← List.length_map (f := Chunk.row)] at this
  exact this.dataP
theorem s_toPacketP (p : Packet) (hl : p.chunks.length ≤ 1048576) : Spec Try.prog 24 0 [] [p.ro] (fun r _ _ _ => r = p.ro) := by
  refine mk24 rfl fun c hP hm => ?_
  unfold pc24 Packet.ro
  simp only [hm, go_sem, ↓reduceIte]
  refine call_dataP (hP ▸ s_toChunkSP p.chunks hl) rfl rfl ?_
  simp only [hm, go_sem, ↓reduceIte]
end Go.Cap
