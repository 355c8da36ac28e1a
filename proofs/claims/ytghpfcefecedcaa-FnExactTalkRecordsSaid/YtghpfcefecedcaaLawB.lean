import Derived.Test.YtghpfcefecedcaaLawA
import Derived.Test.YtghpfcefecedcaaPc
/- Contracts: the packets of a talk (the program's). -/
namespace Go.Cap
open Go Go.Proofs
set_option maxRecDepth 100000
set_option linter.unusedSimpArgs false
set_option linter.unusedVariables false
attribute [local irreducible] Call Run Spec Le

abbrev Talk.cells (t : Talk) : List AV := [.i t.fr, .i t.to, .i t.a.tag, .i t.a.window, .i t.a.streams, .i t.a.tsn, .i t.b.tag, .i t.b.window, .i t.b.streams, .i t.b.tsn, .i t.size, .r (.ro none (t.says.map Say.row))]
/-- A packet as it is sent. -/
def sendPk (t : Talk) (byB : Bool) (c : Chunk) (tag : Int) : Packet := if byB then ⟨t.to, t.fr, tag, [c]⟩ else ⟨t.fr, t.to, tag, [c]⟩
theorem s_send (t : Talk) (byB : Bool) (c : Chunk) (tag : Int) (L : List (List RV)) (hL : L.length ≤ 100000) :
    Spec Try.prog 86 3 [(0, .var t.cells), (1, .var [.sl 2 0 L.length]), (2, .row 4 L)] [.bo byB, c.av, .i tag, .ptr 0 0 0, .ptr 1 0 0]
      (fun r hp nx gs => r = .tup [] ∧ hp = [(0, .var t.cells), (1, .var [.sl 3 0 (L.length + 1)]), (3, .row 4 (L ++ [(sendPk t byB c tag).row]))] ∧ nx = 4 ∧ gs = []) := by
  refine Spec.le (Q := fun r hp nx gs => r = .tup [] ∧ ∃ b, b ≠ 0 ∧ b ≠ 1 ∧ hget hp 0 = some (.var t.cells) ∧ hget hp 1 = some (.var [.sl b 0 (L.length + 1)]) ∧ hget hp b = some (.row 4 (L ++ [(sendPk t byB c tag).row]))) ?_ ?_
  · refine mr86 rfl fun cx hP hm => ?_
    unfold pc86 Chunk.av Talk.cells
    refine run_seq (run_wpc _ _ _ _ _ ?_)
    simp only [hm, go_sem, ↓reduceIte]
    refine run_seq (run_wpc _ _ _ _ _ ?_)
    simp only [hm, go_sem, ↓reduceIte]
    refine run_frz 4 rfl (by first | (simp only [hm, List.length_map, go_sem, ↓reduceIte]; done) | (simp only [hm, List.length_map, go_sem, ↓reduceIte]; omega)) (by first | (simp only [hm, List.length_map, go_sem, ↓reduceIte]; done) | (simp only [hm, List.length_map, go_sem, ↓reduceIte]; omega)) ?_; simp only [hm, take_map_len, List.drop_zero, go_sem, ↓reduceIte]
    refine run_wpc _ _ _ _ _ ?_
    have hrw : List.take L.length L = L := List.take_length
    unfold sendPk
    cases byB
    · simp only [hrw, Bool.false_eq_true, if_false, Packet.row, List.map_cons, List.map_nil, Chunk.row, hm, go_sem, ↓reduceIte]
      refine ⟨by omega, _, ?_, ?_, rfl, rfl⟩
      all_goals decide
    · simp only [hrw, if_true, Packet.row, List.map_cons, List.map_nil, Chunk.row, hm, go_sem, ↓reduceIte]
      refine ⟨by omega, _, ?_, ?_, rfl, rfl⟩
      all_goals decide
  · rintro r hp nx gs ⟨rfl, b, n0, n1, h0, h1, h2⟩
    refine ⟨.tup [], _, 4, [], ⟨rfl, rfl, rfl, rfl⟩, fun cx hc => ?_⟩
    refine le_ev [(3, b)] ?_
    simp only [hc, go_sem, ↓reduceIte, h0, h1, h2]
    rintro (h | h)
    · exact n1 h
    · exact n0 h
theorem c_send {cx : Cx} (hP : cx.P = Try.prog) {t : Talk} {byB : Bool} {c : Chunk} {tag : Int} {L : List (List RV)} (hL : L.length ≤ 100000) {s : St} {K : AV → St → Prop} (b0 b1 b2 : Nat) (hnd : [b0, b1, b2].Nodup)
    (h0 : hget s.hp b0 = some (.var t.cells)) (h1 : hget s.hp b1 = some (.var [.sl b2 0 L.length])) (h2 : hget s.hp b2 = some (.row 4 L))
    (hK : K (.tup []) ⟨s.sl, (b0, .var t.cells) :: (b1, .var [.sl s.nx 0 (L.length + 1)]) :: (s.nx, .row 4 (L ++ [(sendPk t byB c tag).row])) :: hdel (hdel (hdel s.hp b0) b1) b2, s.nx + 1, s.gs⟩) : Call cx 86 [.bo byB, c.av, .i tag, .ptr b0 0 0, .ptr b1 0 0] s K := by
  refine call_spec [b0, b1, b2] (hP ▸ s_send t byB c tag L hL) hnd ?_ ?_ ?_ fun r hp' nx' gs' h => ?_
  · intro p hp
    simp only [List.mem_cons, List.mem_singleton, List.not_mem_nil, or_false] at hp
    rcases hp with rfl | rfl | rfl
    · exact ⟨by simp, by rw [show idf [b0, b1, b2] s.nx 0 = b0 from rfl, h0]; rfl⟩
    · exact ⟨by simp, by rw [show idf [b0, b1, b2] s.nx 1 = b1 from rfl, h1]; rfl⟩
    · exact ⟨by simp, by rw [show idf [b0, b1, b2] s.nx 2 = b2 from rfl, h2]; rfl⟩
  · intro j hj
    have : j = 0 ∨ j = 1 ∨ j = 2 := by simp at hj; omega
    rcases this with rfl | rfl | rfl
    · exact ⟨_, List.mem_cons_self ..⟩
    · exact ⟨_, List.mem_cons_of_mem _ (List.mem_cons_self ..)⟩
    · exact ⟨_, List.mem_cons_of_mem _ (List.mem_cons_of_mem _ (List.mem_cons_self ..))⟩
  · rfl
  · obtain ⟨rfl, rfl, rfl, rfl⟩ := h
    exact hK
theorem s_say (t : Talk) (byB : Bool) (c : Chunk) (L : List (List RV)) (hL : L.length ≤ 100000) :
    Spec Try.prog 87 4 [(0, .var t.cells), (1, .var [.sl 2 0 L.length]), (2, .row 4 L), (3, .var [.fn 86 [.ptr 0 0 0, .ptr 1 0 0]])] [.bo byB, c.av, .ptr 3 0 0, .ptr 0 0 0]
      (fun r hp nx gs => r = .tup [] ∧ hp = [(0, .var t.cells), (1, .var [.sl 4 0 (L.length + 1)]), (4, .row 4 (L ++ [(onePk t byB c).row])), (3, .var [.fn 86 [.ptr 0 0 0, .ptr 1 0 0]])] ∧ nx = 5 ∧ gs = []) := by
  refine Spec.le (Q := fun r hp nx gs => r = .tup [] ∧ ∃ b, b ≠ 0 ∧ b ≠ 1 ∧ b ≠ 3 ∧ hget hp 0 = some (.var t.cells) ∧ hget hp 1 = some (.var [.sl b 0 (L.length + 1)]) ∧ hget hp b = some (.row 4 (L ++ [(onePk t byB c).row])) ∧ hget hp 3 = some (.var [.fn 86 [.ptr 0 0 0, .ptr 1 0 0]])) ?_ ?_
  · refine mk87 rfl fun cx hP hm => ?_
    unfold pc87 Chunk.av Talk.cells
    cases byB
    · simp only [hm, go_sem, ↓reduceIte]
      refine c_send hP (t := t) (byB := false) (c := c) (tag := t.b.tag) hL 0 1 2 (by decide) rfl rfl rfl ?_
      simp only [hm, go_sem, ↓reduceIte]
      refine ⟨5, ?_⟩
      simp only [hm, go_sem, ↓reduceIte]
      rfl
    · simp only [hm, go_sem, ↓reduceIte]
      refine c_send hP (t := t) (byB := true) (c := c) (tag := t.a.tag) hL 0 1 2 (by decide) rfl rfl rfl ?_
      simp only [hm, go_sem, ↓reduceIte]
      refine ⟨5, ?_⟩
      simp only [hm, go_sem, ↓reduceIte]
      rfl
  · rintro r hp nx gs ⟨rfl, b, n0, n1, n3, h0, h1, h2, h3⟩
    refine ⟨.tup [], _, 5, [], ⟨rfl, rfl, rfl, rfl⟩, fun cx hc => ?_⟩
    refine le_ev [(4, b)] ?_
    simp only [hc, go_sem, ↓reduceIte, h0, h1, h2, h3]
    refine ⟨?_, fun h => n3 h.symm⟩
    rintro (h | h)
    · exact n1 h
    · exact n0 h
theorem c_say {cx : Cx} (hP : cx.P = Try.prog) {t : Talk} {byB : Bool} {c : Chunk} {L : List (List RV)} (hL : L.length ≤ 100000) {s : St} {K : AV → St → Prop} (b0 b1 b2 b3 : Nat) (hnd : [b0, b1, b2, b3].Nodup)
    (h0 : hget s.hp b0 = some (.var t.cells)) (h1 : hget s.hp b1 = some (.var [.sl b2 0 L.length])) (h2 : hget s.hp b2 = some (.row 4 L)) (h3 : hget s.hp b3 = some (.var [.fn 86 [.ptr b0 0 0, .ptr b1 0 0]]))
    (hK : K (.tup []) ⟨s.sl, (b0, .var t.cells) :: (b1, .var [.sl s.nx 0 (L.length + 1)]) :: (s.nx, .row 4 (L ++ [(onePk t byB c).row])) :: (b3, .var [.fn 86 [.ptr b0 0 0, .ptr b1 0 0]]) :: hdel (hdel (hdel (hdel s.hp b0) b1) b2) b3, s.nx + 1, s.gs⟩) : Call cx 87 [.bo byB, c.av, .ptr b3 0 0, .ptr b0 0 0] s K := by
  refine call_spec [b0, b1, b2, b3] (hP ▸ s_say t byB c L hL) hnd ?_ ?_ ?_ fun r hp' nx' gs' h => ?_
  · intro p hp
    simp only [List.mem_cons, List.mem_singleton, List.not_mem_nil, or_false] at hp
    rcases hp with rfl | rfl | rfl | rfl
    · exact ⟨by simp, by rw [show idf [b0, b1, b2, b3] s.nx 0 = b0 from rfl, h0]; rfl⟩
    · exact ⟨by simp, by rw [show idf [b0, b1, b2, b3] s.nx 1 = b1 from rfl, h1]; rfl⟩
    · exact ⟨by simp, by rw [show idf [b0, b1, b2, b3] s.nx 2 = b2 from rfl, h2]; rfl⟩
    · exact ⟨by simp, by rw [show idf [b0, b1, b2, b3] s.nx 3 = b3 from rfl, h3]; rfl⟩
  · intro j hj
    have : j = 0 ∨ j = 1 ∨ j = 2 ∨ j = 3 := by simp at hj; omega
    rcases this with rfl | rfl | rfl | rfl
    · exact ⟨_, List.mem_cons_self ..⟩
    · exact ⟨_, List.mem_cons_of_mem _ (List.mem_cons_self ..)⟩
    · exact ⟨_, List.mem_cons_of_mem _ (List.mem_cons_of_mem _ (List.mem_cons_self ..))⟩
    · exact ⟨_, List.mem_cons_of_mem _ (List.mem_cons_of_mem _ (List.mem_cons_of_mem _ (List.mem_cons_self ..)))⟩
  · rfl
  · obtain ⟨rfl, rfl, rfl, rfl⟩ := h
    exact hK
theorem s_partsOfP (t : Talk) (hv : talkB t = true) : Spec Try.prog 89 0 [] [t.ro] (Plain fun r => r = .r (.ro none ((talkLists t).map listRow))) := by
  have := s_partsOf t hv
  rw [← List.length_map (f := listRow)] at this
  exact this.dataP
def flatL (l : List (Bool × List Data)) : List (Bool × Data) := l.flatMap fun x => x.2.map fun d => (x.1, d)
theorem lists_all (z : Nat) (ta tb : Int) : ∀ (l : List Say) (f g : List Data), talkAll z ta tb l f g = flatL (lists z ta tb l f g)
  | [], f, g => rfl
  | s :: l, f, g => by
    simp only [talkAll, lists]
    split
    · rw [lists_all z ta tb l f]; rfl
    · rw [lists_all z ta tb l]; rfl
theorem talk_flat (t : Talk) : t.all = flatL (talkLists t) := lists_all _ _ _ _ _ _
theorem flatL_take {l : List (Bool × List Data)} {i : Nat} (h : i < l.length) : flatL (l.take (i + 1)) = flatL (l.take i) ++ l[i].2.map fun d => (l[i].1, d) := by
  rw [take_get h]
  unfold flatL
  rw [List.flatMap_append, List.flatMap_cons, List.flatMap_nil, List.append_nil]
theorem flatL_len {l : List (Bool × List Data)} (i : Nat) : (flatL (l.take i)).length ≤ (flatL l).length := by
  have : flatL l = flatL (l.take i) ++ flatL (l.drop i) := by
    unfold flatL
    rw [← List.flatMap_append, List.take_append_drop]
  rw [this, List.length_append]; omega
theorem flatL_mem {l : List (Bool × List Data)} {x : Bool × List Data} {d : Data} (h : x ∈ l) (hd : d ∈ x.2) : (x.1, d) ∈ flatL l := List.mem_flatMap.2 ⟨x, h, List.mem_map.2 ⟨d, hd, rfl⟩⟩
theorem saysPk_app (t : Talk) (a b : List (Bool × Data)) : saysPk t (a ++ b) = saysPk t a ++ saysPk t b := by unfold saysPk; rw [List.flatMap_append]
theorem s_implTalkPackets (t : Talk) (hl : t.says.length ≤ 1048576) (hx : ∀ s ∈ t.says, s.text.length ≤ 1048576) : Spec Try.prog 20 0 [] [t.ro] (Plain fun r => r = .r (.ro none ((talkPk t).map Packet.row))) := by
  by_cases hv : talkB t = true
  rotate_left
  · have e : talkPk t = [] := by unfold talkPk; rw [if_neg hv]
    rw [e]
    refine Spec.nilP ?_
    have hv' : talkB t = false := by simpa using hv
    refine mr20 rfl fun c hP hm => ?_
    unfold pc20 Talk.ro Talk.av
    refine run_seq (run_wpc _ _ _ _ _ ?_)
    simp only [hm, go_sem, ↓reduceIte]
    refine run_seq (run_wpc _ _ _ _ _ ?_)
    simp only [hm, go_sem, ↓reduceIte]
    refine call_pure (hP ▸ s_implTalkValid t (by omega)) rfl rfl ?_
    simp only [hv', hm, go_sem, ↓reduceIte]
  refine Spec.data1 (sz := 4) (Q := fun r hp _ _ => ∃ b, r = .sl b 0 ((talkPk t).map Packet.row).length ∧ hget hp b = some (.row 4 ((talkPk t).map Packet.row))) ?_ (fun r hp nx gs h => h)
  have hi := init_ok hv
  refine mr20 rfl fun c hP hm => ?_
  unfold pc20 Talk.ro Talk.av
  refine run_seq (run_wpc _ _ _ _ _ ?_)
  simp only [hm, go_sem, ↓reduceIte]
  refine run_seq (run_wpc _ _ _ _ _ ?_)
  simp only [hm, go_sem, ↓reduceIte]
  refine call_pure (hP ▸ s_implTalkValid t (by omega)) rfl rfl ?_
  simp only [hv, hm, go_sem, ↓reduceIte]
  refine run_seq (run_wpc _ _ _ _ _ ?_)
  simp only [hm, go_sem, ↓reduceIte]
  refine run_seq (run_wpc _ _ _ _ _ ?_)
  simp only [hm, go_sem, ↓reduceIte]
  refine run_seq (run_wpc _ _ _ _ _ ?_)
  simp only [hm, go_sem, ↓reduceIte]
  refine run_seq (run_wpc _ _ _ _ _ ?_)
  simp only [hm, go_sem, ↓reduceIte]
  refine call_data (hP ▸ s_implInitPut t.a false (hi false)) rfl rfl ?_
  simp only [Chunk.av, hm, go_sem, ↓reduceIte]
  refine run_seq (run_wpc _ _ _ _ _ ?_)
  simp only [hm, go_sem, ↓reduceIte]
  refine call_data (hP ▸ s_implInitPut t.b true (hi true)) rfl rfl ?_
  simp only [Chunk.av, hm, go_sem, ↓reduceIte]
  have hlist : (talkLists t).length ≤ 4 := by
    have : ∀ (l : List Say) (f g : List Data), (lists t.size.toNat t.a.tsn t.b.tsn l f g).length = l.length := by
      intro l
      induction l with
      | nil => intro f g; rfl
      | cons s l ih => intro f g; simp only [lists]; split <;> simp [ih]
    unfold talkLists
    rw [this]
    exact (talk_ok hv).2.1
  have hal := all_len hv
  refine run_seq (run_wpc _ _ _ _ _ ?_)
  simp only [hm, go_sem, ↓reduceIte]
  refine c_send hP (t := t) (byB := false) (c := initPut t.a false) (tag := 0) (L := []) (by simp) 0 2 1 (by decide) rfl rfl rfl ?_
  simp only [hm, go_sem, ↓reduceIte]
  refine run_seq (run_wpc _ _ _ _ _ ?_)
  simp only [hm, go_sem, ↓reduceIte]
  refine c_say hP (t := t) (byB := true) (c := initPut t.b true) (L := ((hello t).take 1).map Packet.row) (by simp [hello]) 0 2 6 3 (by decide) rfl rfl rfl rfl ?_
  simp only [hm, go_sem, ↓reduceIte]
  refine run_seq (run_wpc _ _ _ _ _ ?_)
  simp only [hm, go_sem, ↓reduceIte]
  refine c_say hP (t := t) (byB := false) (c := ⟨10, 0, []⟩) (L := ((hello t).take 2).map Packet.row) (by simp [hello]) 0 2 7 3 (by decide) rfl rfl rfl rfl ?_
  simp only [hm, go_sem, ↓reduceIte]
  refine run_seq (run_wpc _ _ _ _ _ ?_)
  simp only [hm, go_sem, ↓reduceIte]
  refine c_say hP (t := t) (byB := true) (c := ⟨11, 0, []⟩) (L := ((hello t).take 3).map Packet.row) (by simp [hello]) 0 2 8 3 (by decide) rfl rfl rfl rfl ?_
  simp only [hm, go_sem, ↓reduceIte]
  refine run_seq (run_wpc _ _ _ _ _ ?_)
  simp only [hm, go_sem, ↓reduceIte]
  refine call_dataP (hP ▸ s_partsOfP t hv) rfl rfl ?_
  simp only [hm, go_sem, ↓reduceIte]
  intro _
  have e0 : List.map Packet.row (List.take 3 (hello t)) ++ [(onePk t true ⟨11, 0, []⟩).row] = (hello t).map Packet.row := rfl
  have e1 : (List.take 3 (hello t)).length + 1 = (hello t).length := rfl
  have hh : (hello t).length = 4 := rfl
  rw [e0, e1]
  have hflat := talk_flat t
  have hfl : (flatL (talkLists t)).length ≤ 24 := by rw [← hflat]; exact hal
  have hok : ∀ x ∈ talkLists t, ∀ d ∈ x.2, dataB d = true := fun x hx d hd => talkAll_data hv (x := (x.1, d)) (by rw [hflat]; exact flatL_mem hx hd)
  refine run_exit 0 (fun t0 => t0 = ⟨[(3, .ptr 1 0 0), (5, .fn 87 [.ptr 3 0 0, .ptr 0 0 0])], [(0, .var t.cells), (1, .var [.sl 2 0 (hello t ++ saysPk t t.all).length]), (2, .row 4 ((hello t ++ saysPk t t.all).map Packet.row)), (3, .var [.fn 86 [.ptr 0 0 0, .ptr 1 0 0]])], 4, []⟩) ?_ ?_
  · refine lp_wpc (α := Nat) (fun i => ⟨[(3, .ptr 1 0 0), (5, .fn 87 [.ptr 3 0 0, .ptr 0 0 0]), (49, .r (.ro none ((talkLists t).map listRow))), (50, .i (talkLists t).length), (51, .i i)], [(0, .var t.cells), (1, .var [.sl 2 0 (hello t ++ saysPk t (flatL ((talkLists t).take i))).length]), (2, .row 4 ((hello t ++ saysPk t (flatL ((talkLists t).take i))).map Packet.row)), (3, .var [.fn 86 [.ptr 0 0 0, .ptr 1 0 0]])], 4, []⟩)
      (fun i => i ≤ (talkLists t).length) (fun i => (talkLists t).length - i) 0 (Nat.zero_le _) (by rw [List.take_zero]; simp only [flatL, List.flatMap_nil, saysPk, List.append_nil]; (refine le_ev [(0, 0), (1, 2), (2, 9), (3, 3)] ?_; simp only [hm, go_sem, ↓reduceIte]; first | done | rfl | exact ⟨rfl, rfl⟩)) ?_
    intro i hi
    unfold pc20l1
    rcases Nat.lt_or_ge i (talkLists t).length with hil | hil
    · have hw : IntKind.i64.wrap ((i : Int) + 1) = ((i + 1 : Nat) : Int) := by rw [wrap64 (by omega) (by omega)]; omega
      have hg := getD_map (f := listRow) hil
      have hft := flatL_take hil
      have hfle := flatL_len (l := talkLists t) (i + 1)
      have hxok := hok _ (List.getElem_mem hil)
      generalize (talkLists t)[i] = x at hg hft hxok
      rw [hft] at hfle
      simp only [Int.toNat_natCast, hg, listRow, hm, go_sem, ↓reduceIte]
      repeat' first | refine And.intro ?_ ?_ | intro _
      all_goals first
        | omega
        | rfl
        | skip
      refine lp_wpc (α := Nat) (fun k => ⟨[(3, .ptr 1 0 0), (5, .fn 87 [.ptr 3 0 0, .ptr 0 0 0]), (49, .r (.ro none ((talkLists t).map listRow))), (50, .i (talkLists t).length), (51, .i i), (55, .r (.ro none (x.2.map (tpRow x.1)))), (56, .i x.2.length), (57, .i k)], [(0, .var t.cells), (1, .var [.sl 2 0 (hello t ++ saysPk t (flatL ((talkLists t).take i) ++ (x.2.take k).map fun d => (x.1, d))).length]), (2, .row 4 ((hello t ++ saysPk t (flatL ((talkLists t).take i) ++ (x.2.take k).map fun d => (x.1, d))).map Packet.row)), (3, .var [.fn 86 [.ptr 0 0 0, .ptr 1 0 0]])], 4, []⟩)
        (fun k => k ≤ x.2.length) (fun k => x.2.length - k) 0 (Nat.zero_le _) (by rw [List.take_zero, List.map_nil, List.append_nil]; (refine le_ev [] ?_; simp only [hm, go_sem, ↓reduceIte]; first | done | rfl | exact ⟨rfl, rfl⟩)) ?_
      intro k hk
      unfold pc20l0
      rcases Nat.lt_or_ge k x.2.length with hkl | hkl
      · have hwk : IntKind.i64.wrap ((k : Int) + 1) = ((k + 1 : Nat) : Int) := by rw [wrap64 (by omega) (by omega)]; omega
        have hgk := getD_map (f := tpRow x.1) hkl
        have htk := take_get hkl
        have hd := hxok _ (List.getElem_mem hkl)
        generalize x.2[k] = d at hgk htk hd
        have htsn := (data_ok hd).1
        have hlen2 : (flatL ((talkLists t).take i) ++ (x.2.take k).map fun d => (x.1, d)).length ≤ 24 := by
          rw [List.length_append, List.length_map] at hfle ⊢
          rw [List.length_take]; omega
        have hso : (saysPk t (flatL ((talkLists t).take i) ++ (x.2.take k).map fun d => (x.1, d))).length ≤ 48 := by rw [saysPk_len]; omega
        have hnext : hello t ++ saysPk t (flatL ((talkLists t).take i) ++ (x.2.take (k + 1)).map fun d => (x.1, d)) = hello t ++ saysPk t (flatL ((talkLists t).take i) ++ (x.2.take k).map fun d => (x.1, d)) ++ [onePk t x.1 (dataPut d)] ++ [onePk t (!x.1) (sackPut ⟨d.tsn, []⟩)] := by
          rw [htk, List.map_append, ← List.append_assoc, saysPk_app t _ (List.map _ [d])]
          simp [saysPk]
        have hpl : (hello t ++ saysPk t (flatL ((talkLists t).take i) ++ (x.2.take k).map fun d => (x.1, d))).length ≤ 60 := by rw [List.length_append]; omega
        generalize hello t ++ saysPk t (flatL ((talkLists t).take i) ++ (x.2.take k).map fun d => (x.1, d)) = out at hnext hpl
        simp only [hwk, Int.toNat_natCast, hgk, tpRow, Data.row, hm, go_sem, ↓reduceIte]
        repeat' first | refine And.intro ?_ ?_ | intro _
        all_goals first
          | omega
          | rfl
          | skip
        refine call_data (hP ▸ s_implDataPut d hd) rfl rfl ?_
        simp only [Chunk.av, hm, go_sem, ↓reduceIte]
        refine call_data (hP ▸ s_implSackPut0 d.tsn htsn) rfl rfl ?_
        simp only [Chunk.av, hm, go_sem, ↓reduceIte]
        refine c_say hP (t := t) (byB := x.1) (c := dataPut d) (L := out.map Packet.row) (by rw [List.length_map]; omega) 0 1 2 3 (by decide) rfl (by rw [List.length_map]; rfl) rfl rfl ?_
        simp only [hm, go_sem, ↓reduceIte]
        refine c_say hP (t := t) (byB := !x.1) (c := sackPut ⟨d.tsn, []⟩) (L := (out ++ [onePk t x.1 (dataPut d)]).map Packet.row) (by rw [List.length_map, List.length_append]; simp; omega) 0 1 7 3 (by decide) rfl (by rw [List.length_map, List.length_append]; rfl) (by rw [List.map_append]; rfl) rfl ?_
        simp only [List.length_append, List.length_map, List.length_cons, List.length_nil, hm, go_sem, ↓reduceIte]
        refine ⟨k + 1, hkl, by omega, ?_⟩
        have hnl : (hello t).length + (saysPk t (flatL ((talkLists t).take i) ++ (x.2.take (k + 1)).map fun d => (x.1, d))).length = out.length + 1 + 1 := by rw [← List.length_append, hnext, List.length_append, List.length_append]; rfl
        try rw [hnl]
        rw [hnext, hwk]
        simp only [List.map_append, List.length_append, List.length_cons, List.length_nil, List.append_assoc, List.map_cons, List.map_nil]
        (refine le_ev [(0, 0), (1, 1), (2, 8), (3, 3)] ?_; simp only [hm, go_sem, ↓reduceIte]; first | done | rfl | exact ⟨rfl, rfl⟩)
      · have : k = x.2.length := by omega
        subst this
        rw [List.take_length, ← hft]
        simp only [hw, hm, go_sem, ↓reduceIte]
        repeat' first | refine And.intro ?_ ?_ | intro _
        all_goals first
          | omega
          | (refine ⟨i + 1, hil, by omega, ?_⟩; (refine le_ev [] ?_; simp only [hm, go_sem, ↓reduceIte]; first | done | rfl | exact ⟨rfl, rfl⟩))
    · have : i = (talkLists t).length := by omega
      subst this
      rw [List.take_length, ← hflat]
      simp only [hm, go_sem, ↓reduceIte]
      repeat' first | refine And.intro ?_ ?_ | intro _
      all_goals first
        | omega
        | (refine ⟨_, rfl, ?_⟩; (refine le_ev [] ?_; simp only [hm, go_sem, ↓reduceIte]; first | done | rfl | exact ⟨rfl, rfl⟩))
  rintro t0 rfl
  rw [if_pos rfl]
  have hpk : talkPk t = hello t ++ saysPk t t.all ++ bye t := by unfold talkPk; rw [if_pos hv]
  have hpl : (hello t ++ saysPk t t.all).length ≤ 60 := by rw [List.length_append, saysPk_len]; omega
  rw [hpk]
  generalize hello t ++ saysPk t t.all = out at hpl
  refine run_seq (run_wpc _ _ _ _ _ ?_)
  simp only [hm, go_sem, ↓reduceIte]
  refine c_say hP (t := t) (byB := false) (c := ⟨7, 0, []⟩) (L := out.map Packet.row) (by rw [List.length_map]; omega) 0 1 2 3 (by decide) rfl (by rw [List.length_map]; rfl) rfl rfl ?_
  simp only [hm, go_sem, ↓reduceIte]
  refine run_seq (run_wpc _ _ _ _ _ ?_)
  simp only [hm, go_sem, ↓reduceIte]
  refine c_say hP (t := t) (byB := true) (c := ⟨8, 0, []⟩) (L := (out ++ (bye t).take 1).map Packet.row) (by rw [List.length_map, List.length_append]; simp [bye]; omega) 0 1 4 3 (by decide) rfl (by rw [List.length_map, List.length_append]; rfl) (by rw [List.map_append]; rfl) rfl ?_
  simp only [hm, go_sem, ↓reduceIte]
  refine run_seq (run_wpc _ _ _ _ _ ?_)
  simp only [hm, go_sem, ↓reduceIte]
  refine c_say hP (t := t) (byB := false) (c := ⟨14, 0, []⟩) (L := (out ++ (bye t).take 2).map Packet.row) (by rw [List.length_map, List.length_append]; simp [bye]; omega) 0 1 5 3 (by decide) rfl (by rw [List.length_map, List.length_append]; rfl) (by simp only [go_sem, ↓reduceIte, List.map_append, List.append_assoc]; rfl) rfl ?_
  simp only [hm, go_sem, ↓reduceIte]
  refine run_wpc _ _ _ _ _ ?_
  simp only [hm, go_sem, ↓reduceIte]
  refine ⟨6, rfl, ?_⟩
  simp only [List.map_append, List.append_assoc, hm, go_sem, ↓reduceIte]
  rfl
end Go.Cap

/- Contracts: draws of talks as data; equality of packets; packets are valid, twice. -/
namespace Go.Cap
open Go Go.Proofs
set_option maxRecDepth 100000
set_option linter.unusedSimpArgs false
set_option linter.unusedVariables false
attribute [local irreducible] Call Run Spec Le

theorem s_implChunkValid (c : Chunk) : Spec Try.prog 102 0 [] [c.av] (fun r _ _ _ => r = .bo (chunkB c)) := by
  refine mk102 rfl fun cx hP hm => ?_
  unfold pc102 Chunk.av
  simp only [hm, go_sem, ↓reduceIte]
  repeat' first | refine And.intro ?_ ?_ | intro _
  all_goals (apply bo_inj; rw [Bool.eq_iff_iff]; simp [chunkB, inB] <;> omega)
theorem s_implPacketValid (p : Packet) : Spec Try.prog 25 0 [] [p.ro] (fun r _ _ _ => r = .bo (packB p)) := by
  refine mr25 rfl fun c hP hm => ?_
  unfold pc25 Packet.ro
  refine run_seq (run_wpc _ _ _ _ _ ?_)
  simp only [hm, go_sem, ↓reduceIte]
  refine run_seq (run_wpc _ _ _ _ _ ?_)
  simp only [hm, go_sem, ↓reduceIte]
  repeat' first | refine And.intro ?_ ?_ | intro _
  all_goals first
    | (apply bo_inj; symm; rw [Bool.eq_false_iff]; intro hh; simp only [packB, inB, Bool.and_eq_true, decide_eq_true_eq] at hh; omega)
    | skip
  refine run_wpc _ _ _ _ _ ?_
  simp only [hm, go_sem, ↓reduceIte]
  intro _
  refine lp_wpc (α := Nat) (fun i => ⟨[(53, .r (.ro none (p.chunks.map Chunk.row))), (54, .i p.chunks.length), (55, .i i)], [], 0, []⟩)
    (fun i => i ≤ p.chunks.length ∧ ∀ c ∈ p.chunks.take i, chunkB c = true) (fun i => p.chunks.length - i) 0 ⟨Nat.zero_le _, fun c hc => by simp at hc⟩ (by (refine le_ev [] ?_; simp only [hm, go_sem, ↓reduceIte]; first | done | rfl | exact ⟨rfl, rfl⟩)) ?_
  rintro i ⟨hi, hI⟩
  unfold pc25l0
  rcases Nat.lt_or_ge i p.chunks.length with hil | hil
  · have hw : IntKind.i64.wrap ((i : Int) + 1) = ((i + 1 : Nat) : Int) := by rw [wrap64 (by omega) (by omega)]; omega
    have hg := getD_map (f := Chunk.row) hil
    have htk := take_get hil
    have hmem := List.getElem_mem hil
    generalize p.chunks[i] = x at hg htk hmem
    have hok : chunkB x = false → AV.r (RV.b false) = AV.bo (packB p) := fun h => by
      apply bo_inj; symm; rw [Bool.eq_false_iff]; intro hh
      simp only [packB, Bool.and_eq_true, List.all_eq_true] at hh
      rw [hh.2 x hmem] at h; cases h
    simp only [hw, Int.toNat_natCast, hg, Chunk.row, hm, go_sem, ↓reduceIte]
    repeat' first | refine And.intro ?_ ?_ | intro _ | (refine call_pure (hP ▸ s_implChunkValid x) rfl rfl ?_; simp only [hw, Int.toNat_natCast, hg, Chunk.row, hm, go_sem, ↓reduceIte])
    all_goals first
      | omega
      | rfl
      | (rename_i hc; exact hok hc)
      | (rename_i hc
         refine ⟨i + 1, ⟨hil, fun y hy => ?_⟩, by omega, ?_⟩
         · rw [htk] at hy
           rcases List.mem_append.1 hy with hy | hy
           · exact hI y hy
           · simp only [List.mem_singleton] at hy; subst hy; exact hc
         · (refine le_ev [] ?_; simp only [hm, go_sem, ↓reduceIte]; first | done | rfl | exact ⟨rfl, rfl⟩))
  · have : i = p.chunks.length := by omega
    subst this
    rw [List.take_length] at hI
    have hall : p.chunks.all chunkB = true := List.all_eq_true.2 hI
    simp only [hm, go_sem, ↓reduceIte]
    repeat' first | refine And.intro ?_ ?_ | intro _
    all_goals first
      | omega
      | (apply bo_inj; symm; simp only [packB, inB, hall, Bool.and_eq_true, decide_eq_true_eq, and_true]; omega)
end Go.Cap

/- Contracts: sums; bytes of chunks and packets, twice. -/
namespace Go.Cap
open Go Go.Proofs
set_option maxRecDepth 100000
set_option linter.unusedSimpArgs false
set_option linter.unusedVariables false
attribute [local irreducible] Call Run Spec Le

theorem sum_step {a b : Int} {x : UInt8} (ha : 0 ≤ a ∧ a < 65536) (hb : 0 ≤ b ∧ b < 65536) : (IntKind.i64.wrap (a + IntKind.i64.wrap (x.toNat : Int))).tmod 65521 = (a + x.toNat) % 65521 ∧ (IntKind.i64.wrap (b + (a + x.toNat) % 65521)).tmod 65521 = (b + (a + x.toNat) % 65521) % 65521 := by
  have hx := byte_lt x
  have h1 : IntKind.i64.wrap (x.toNat : Int) = x.toNat := wrap64 (by omega) (by omega)
  rw [h1, wrap64 (by omega) (by omega), wrap64 (x := b + _) (by omega) (by omega)]
  exact ⟨Int.tmod_eq_emod_of_nonneg (by omega), Int.tmod_eq_emod_of_nonneg (by omega)⟩
theorem getD_eq {s : List UInt8} {i : Nat} (h : i < s.length) : s.getD i 0 = s[i] := by simp [List.getD_eq_getElem?_getD, h]
theorem s_sumOn (s : List UInt8) (hs : s.length ≤ 1000000) : Spec Try.prog 177 0 [] [.i 1, .i 0, .st s] (fun r _ _ _ => r = .i (sumOf s)) := by
  refine mk177 rfl fun c hP hm => ?_
  unfold pc177
  simp only [hm, go_sem, ↓reduceIte]
  refine lp_wpc (α := Nat) (fun i => ⟨[(0, .i (adl (s.take i) 1 0).1), (1, .i (adl (s.take i) 1 0).2), (2, .st s), (7, .i i)], [], 0, []⟩) (fun i => i ≤ s.length) (fun i => s.length - i) 0 (Nat.zero_le _) (by rw [List.take_zero, adl]; (refine le_ev [] ?_; simp only [hm, go_sem, ↓reduceIte]; first | done | rfl | exact ⟨rfl, rfl⟩)) ?_
  intro i hi
  unfold pc177l0
  rcases Nat.lt_or_ge i s.length with hil | hil
  · have hw : IntKind.i64.wrap ((i : Int) + 1) = ((i + 1 : Nat) : Int) := by rw [wrap64 (by omega) (by omega)]; omega
    obtain ⟨r1, r2⟩ := adl_range (s.take i) 1 0 (by omega) (by omega)
    have hst := adl_take hil 1 0
    have hgd := getD_eq hil
    generalize adl (s.take i) 1 0 = ab at r1 r2 hst
    generalize s[i] = x at hst hgd
    obtain ⟨e1, e2⟩ := sum_step (a := ab.1) (b := ab.2) (x := x) (by omega) (by omega)
    simp only [hw, hgd, e1, e2, Int.toNat_natCast, hm, go_sem, ↓reduceIte]
    repeat' first | refine And.intro ?_ ?_ | intro _
    all_goals first
      | omega
      | (refine ⟨i + 1, hil, by omega, ?_⟩; rw [hst]; (refine le_ev [] ?_; simp only [hm, go_sem, ↓reduceIte]; first | done | rfl | exact ⟨rfl, rfl⟩))
  · have : i = s.length := by omega
    subst this
    rw [List.take_length]
    obtain ⟨r1, r2⟩ := adl_range s 1 0 (by omega) (by omega)
    have hf : IntKind.i64.wrap (IntKind.i64.wrap ((adl s 1 0).2 * 65536) + (adl s 1 0).1) = sumOf s := by
      unfold sumOf
      rw [wrap64 (x := (adl s 1 0).2 * 65536) (by omega) (by omega), wrap64 (by omega) (by omega)]; omega
    simp only [hf, hm, go_sem, ↓reduceIte]
    repeat' first | refine And.intro ?_ ?_ | intro _
    all_goals first
      | omega
      | rfl
theorem s_SumText (s : List UInt8) (hs : s.length ≤ 1000000) : Spec Try.prog 116 0 [] [.st s] (fun r _ _ _ => r = .i (sumOf s)) := by
  refine mk116 rfl fun c hP hm => ?_
  unfold pc116
  simp only [hm, go_sem, ↓reduceIte]
  refine call_pure (hP ▸ s_sumOn s hs) rfl rfl ?_
  simp only [hm, go_sem, ↓reduceIte]
theorem s_l2Next (s : List UInt8) (hs : s.length ≤ 1000000) : Spec Try.prog 226 0 [] [.i 1, .st s] (fun r _ _ _ => r = .i (sumOf s)) := by
  refine mk226 rfl fun c hP hm => ?_
  unfold pc226
  have t1 : (1 : Int).tmod 65536 = 1 := by decide
  have t2 : IntKind.i64.wrap ((1 : Int).tdiv 65536) = 0 := by decide
  simp only [t1, t2, hm, go_sem, ↓reduceIte]
  refine lp_wpc (α := Nat) (fun i => ⟨[(1, .st s), (5, .i (adl (s.take i) 1 0).1), (6, .i (adl (s.take i) 1 0).2), (7, .i i)], [], 0, []⟩) (fun i => i ≤ s.length) (fun i => s.length - i) 0 (Nat.zero_le _) (by rw [List.take_zero, adl]; (refine le_ev [] ?_; simp only [hm, go_sem, ↓reduceIte]; first | done | rfl | exact ⟨rfl, rfl⟩)) ?_
  intro i hi
  unfold pc226l0
  rcases Nat.lt_or_ge i s.length with hil | hil
  · have hw : IntKind.i64.wrap ((i : Int) + 1) = ((i + 1 : Nat) : Int) := by rw [wrap64 (by omega) (by omega)]; omega
    obtain ⟨r1, r2⟩ := adl_range (s.take i) 1 0 (by omega) (by omega)
    have hst := adl_take hil 1 0
    have hgd := getD_eq hil
    generalize adl (s.take i) 1 0 = ab at r1 r2 hst
    generalize s[i] = x at hst hgd
    obtain ⟨e1, e2⟩ := sum_step (a := ab.1) (b := ab.2) (x := x) (by omega) (by omega)
    simp only [hw, hgd, e1, e2, Int.toNat_natCast, hm, go_sem, ↓reduceIte]
    repeat' first | refine And.intro ?_ ?_ | intro _
    all_goals first
      | omega
      | (refine ⟨i + 1, hil, by omega, ?_⟩; rw [hst]; (refine le_ev [] ?_; simp only [hm, go_sem, ↓reduceIte]; first | done | rfl | exact ⟨rfl, rfl⟩))
  · have : i = s.length := by omega
    subst this
    rw [List.take_length]
    obtain ⟨r1, r2⟩ := adl_range s 1 0 (by omega) (by omega)
    have hf : IntKind.i64.wrap (IntKind.i64.wrap (65536 * (adl s 1 0).2) + (adl s 1 0).1) = sumOf s := by
      unfold sumOf
      rw [wrap64 (x := 65536 * (adl s 1 0).2) (by omega) (by omega), wrap64 (by omega) (by omega)]
    simp only [hf, hm, go_sem, ↓reduceIte]
    repeat' first | refine And.intro ?_ ?_ | intro _
    all_goals first
      | omega
      | rfl
/-- The bytes of a chunk without its end. -/
def chunkHead (c : Chunk) : List UInt8 := [u8 c.kind, u8 c.flags] ++ word (4 + c.body.length : Nat) ++ c.body
theorem chunkHead_len (c : Chunk) : (chunkHead c).length = 4 + c.body.length := by simp [chunkHead, word]; omega
theorem kb {k f : Int} (hk : 0 ≤ k ∧ k ≤ 255) (hf : 0 ≤ f ∧ f ≤ 255) : [byteOf [.n .u8 (IntKind.u8.wrap k)], byteOf [.n .u8 (IntKind.u8.wrap f)]] = [u8 k, u8 f] := by
  simp only [byteOf_u8, wrap_u8]
  rw [Int.emod_eq_of_lt (a := k) (by omega) (by omega), Int.emod_eq_of_lt (a := f) (by omega) (by omega)]
theorem pad_mod {n j : Nat} (hn : n ≤ 60) (hj : j ≤ padN n) : (((4 + n + j : Nat) : Int).tmod 4 = 0) ↔ j = padN n := by
  rw [Int.tmod_eq_emod_of_nonneg (by omega)]
  unfold padN at hj ⊢
  omega
theorem s_implChunkPut (c : Chunk) (h : chunkB c = true) : Spec Try.prog 115 0 [] [c.av] (fun r _ _ _ => r = .st (chunkPut c)) := by
  have h' := h
  simp only [chunkB, inB, Bool.and_eq_true, decide_eq_true_eq] at h'
  obtain ⟨⟨h1, h2⟩, h3⟩ := h'
  refine mk115 rfl fun cx hP hm => ?_
  unfold pc115 Chunk.av
  have hw : IntKind.i64.wrap (4 + (c.body.length : Int)) = ((4 + c.body.length : Nat) : Int) := by rw [wrap64 (by omega) (by omega)]; omega
  have hk := kb h1 h2
  simp only [hw, hm, go_sem, ↓reduceIte]
  refine call_pure (hP ▸ s_implChunkValid c) rfl rfl ?_
  simp only [h, hw, hm, go_sem, ↓reduceIte]
  refine call_data (hP ▸ s_WordPut ((4 + c.body.length : Nat) : Int) (by omega)) rfl rfl ?_
  simp only [hk, word_len, List.length_append, List.length_cons, List.length_nil, hm, go_sem, ↓reduceIte]
  repeat' first | refine And.intro ?_ ?_ | intro _
  all_goals first
    | omega
    | (rename_i hr; rcases hr with rfl | rfl <;> exact ⟨_, rfl⟩)
    | skip
  have hbase : [u8 c.kind, u8 c.flags] ++ word ((4 + c.body.length : Nat) : Int) ++ c.body = chunkHead c := rfl
  have hhl := chunkHead_len c
  refine lp_wpc (α := Nat) (fun j => ⟨[(5, .st (chunkHead c ++ List.replicate j 0))], [], 0, []⟩) (fun j => j ≤ padN c.body.length) (fun j => padN c.body.length - j) 0 (Nat.zero_le _) (by rw [List.replicate_zero, List.append_nil, ← hbase]; (refine le_ev [] ?_; simp only [hm, go_sem, ↓reduceIte]; first | done | rfl | exact ⟨rfl, rfl⟩)) ?_
  intro j hj
  unfold pc115l0
  have hpm := pad_mod h3 hj
  have hp4 := (padN_lt c.body.length).1
  have hll : ((chunkHead c).length + j) = 4 + c.body.length + j := by omega
  simp only [List.length_append, List.length_replicate, hll, hm, go_sem, ↓reduceIte]
  repeat' first | refine And.intro ?_ ?_ | intro _
  all_goals first
    | omega
    | (rename_i hne
       refine ⟨j + 1, ?_, ?_, ?_⟩
       · have : j ≠ padN c.body.length := fun e => hne (hpm.2 e)
         omega
       · have : j ≠ padN c.body.length := fun e => hne (hpm.2 e)
         omega
       · rw [List.append_assoc, ← List.replicate_succ' (n := j) (a := (0 : UInt8))]
         (refine le_ev [] ?_; simp only [hm, go_sem, ↓reduceIte]; first | done | rfl | exact ⟨rfl, rfl⟩))
    | (rename_i he; rw [hpm.1 he]; rfl)
theorem loop_l11Put {cx : Cx} (hP : cx.P = Try.prog) (hm : cx.m = 0) (c : Chunk) (h3 : c.body.length ≤ 60) {s0 : St} {n r : St → Prop} {x : Nat → St → Prop}
    (hs : Le cx s0 ⟨[(3, .st (chunkHead c ++ List.replicate 0 0))], [], 0, []⟩) (hx : x 0 ⟨[(3, .st (chunkPut c))], [], 0, []⟩) : Run cx (.lp pc207l0) s0 n x r := by
  have hhl := chunkHead_len c
  refine run_exit 0 (fun t0 => t0 = ⟨[(3, .st (chunkPut c))], [], 0, []⟩) ?_ (fun t0 h => by rw [h]; exact hx)
  refine lp_wpc (α := Nat) (fun j => ⟨[(3, .st (chunkHead c ++ List.replicate j 0))], [], 0, []⟩) (fun j => j ≤ padN c.body.length) (fun j => padN c.body.length - j) 0 (Nat.zero_le _) hs ?_
  intro j hj
  unfold pc207l0
  have hpm := pad_mod h3 hj
  have hp4 := (padN_lt c.body.length).1
  have hll : ((chunkHead c).length + j) = 4 + c.body.length + j := by omega
  simp only [List.length_append, List.length_replicate, hll, hm, go_sem, ↓reduceIte]
  repeat' first | refine And.intro ?_ ?_ | intro _
  all_goals first
    | omega
    | (rename_i hne
       refine ⟨j + 1, ?_, ?_, ?_⟩
       · have : j ≠ padN c.body.length := fun e => hne (hpm.2 e)
         omega
       · have : j ≠ padN c.body.length := fun e => hne (hpm.2 e)
         omega
       · rw [List.append_assoc, ← List.replicate_succ' (n := j) (a := (0 : UInt8))]
         (refine le_ev [] ?_; simp only [hm, go_sem, ↓reduceIte]; first | done | rfl | exact ⟨rfl, rfl⟩))
    | (rename_i he; rw [hpm.1 he]; refine ⟨_, rfl, ?_⟩; unfold chunkPut chunkHead; (refine le_ev [] ?_; simp only [hm, go_sem, ↓reduceIte]; first | done | rfl | exact ⟨rfl, rfl⟩))
theorem s_l11Put (c : Chunk) (h : chunkB c = true) : Spec Try.prog 207 0 [] [c.av] (fun r _ _ _ => r = .st (chunkPut c)) := by
  have h' := h
  simp only [chunkB, inB, Bool.and_eq_true, decide_eq_true_eq] at h'
  obtain ⟨⟨h1, h2⟩, h3⟩ := h'
  refine mk207 rfl fun cx hP hm => ?_
  unfold pc207 Chunk.av
  have hw : IntKind.i64.wrap (4 + (c.body.length : Int)) = ((4 + c.body.length : Nat) : Int) := by rw [wrap64 (by omega) (by omega)]; omega
  have hk := kb h1 h2
  have hb2 : u8 c.kind :: u8 c.flags :: (word ((4 + c.body.length : Nat) : Int) ++ c.body) = chunkHead c ++ List.replicate 0 0 := by rw [List.replicate_zero, List.append_nil]; rfl
  simp only [hw, hk, hm, go_sem, ↓reduceIte]
  repeat' first
    | refine And.intro ?_ ?_
    | intro _
    | (refine call_pure (hP ▸ s_l1Word ((4 + c.body.length : Nat) : Int) (by omega)) rfl rfl ?_; simp only [hk, word_len, List.length_append, List.length_cons, List.length_nil, List.cons_append, List.nil_append, hm, go_sem, ↓reduceIte])
  all_goals first
    | omega
    | (rename_i hr; rcases hr with rfl | rfl <;> exact ⟨_, rfl⟩)
    | (rw [hw]; done)
    | (refine loop_l11Put hP hm c h3 (by rw [← hb2]; (refine le_ev [] ?_; simp only [hm, go_sem, ↓reduceIte]; first | done | rfl | exact ⟨rfl, rfl⟩)) ?_
       simp only [hm, go_sem, ↓reduceIte])
theorem chunkPut_le {c : Chunk} (h : chunkB c = true) : (chunkPut c).length ≤ 64 := by
  simp only [chunkB, inB, Bool.and_eq_true, decide_eq_true_eq] at h
  rw [chunkPut_len]
  have := padN_lt c.body.length
  unfold padN at *; omega
theorem rest_le : ∀ (l : List Chunk), (∀ c ∈ l, chunkB c = true) → (l.flatMap chunkPut).length ≤ 64 * l.length
  | [], _ => by simp
  | c :: l, h => by
    have h1 := chunkPut_le (h c (by simp))
    have h2 := rest_le l fun x hx => h x (by simp [hx])
    rw [List.flatMap_cons, List.length_append, List.length_cons]; omega
theorem packHead_len (p : Packet) : (packHead p).length = 8 := by simp [packHead, word, long]
theorem s_implPacketPut (p : Packet) : Spec Try.prog 37 0 [] [p.ro] (fun r _ _ _ => r = .st (packPut p)) := by
  refine mr37 rfl fun c hP hm => ?_
  unfold pc37 Packet.ro
  refine run_seq (run_wpc _ _ _ _ _ ?_)
  simp only [hm, go_sem, ↓reduceIte]
  refine run_seq (run_wpc _ _ _ _ _ ?_)
  simp only [hm, go_sem, ↓reduceIte]
  refine call_pure (hP ▸ s_implPacketValid p) rfl rfl ?_
  cases hv : packB p
  · simp only [hm, go_sem, ↓reduceIte]
    unfold packPut
    rw [hv]; rfl
  have h' := hv
  simp only [packB, inB, Bool.and_eq_true, decide_eq_true_eq, List.all_eq_true] at h'
  obtain ⟨⟨⟨⟨⟨h1, h2⟩, h3⟩, h4⟩, h5⟩, h6⟩ := h'
  simp only [hm, go_sem, ↓reduceIte]
  refine run_seq (run_wpc _ _ _ _ _ ?_)
  simp only [hm, go_sem, ↓reduceIte]
  refine call_data (hP ▸ s_LongPut p.tag (by omega)) rfl rfl ?_
  simp only [hm, go_sem, ↓reduceIte]
  refine run_seq (run_wpc _ _ _ _ _ ?_)
  simp only [hm, go_sem, ↓reduceIte]
  have hws := s_words [p.fr, p.to] (by simp) (by simp only [List.mem_cons, List.not_mem_nil, or_false]; rintro n (rfl | rfl) <;> omega)
  have e1 : ([p.fr, p.to].flatMap word) = word p.fr ++ word p.to := by simp
  rw [e1] at hws
  refine call_flat (hP ▸ hws) rfl (.cons (Vw.full rfl (by simp)) .nil) ?_
  simp only [word_len, long_len, List.length_append, hm, go_sem, ↓reduceIte]
  refine run_seq (run_wpc _ _ _ _ _ ?_)
  simp only [hm, go_sem, ↓reduceIte]
  refine run_seq (run_wpc _ _ _ _ _ ?_)
  simp only [hm, go_sem, ↓reduceIte]
  intro _
  have hhd : word p.fr ++ word p.to ++ long p.tag = packHead p := rfl
  have hhl := packHead_len p
  rw [hhd]
  refine run_exit 0 (fun t0 => t0 = ⟨[(5, .st (packHead p)), (6, .st (packRest p))], [], 0, []⟩) ?_ ?_
  · refine lp_wpc (α := Nat) (fun i => ⟨[(5, .st (packHead p)), (6, .st ((p.chunks.take i).flatMap chunkPut)), (29, .r (.ro none (p.chunks.map Chunk.row))), (30, .i p.chunks.length), (31, .i i)], [], 0, []⟩)
      (fun i => i ≤ p.chunks.length) (fun i => p.chunks.length - i) 0 (Nat.zero_le _) (by rw [List.take_zero, List.flatMap_nil]; (refine le_ev [] ?_; simp only [hm, go_sem, ↓reduceIte]; first | done | rfl | exact ⟨rfl, rfl⟩)) ?_
    intro i hi
    unfold pc37l0
    rcases Nat.lt_or_ge i p.chunks.length with hil | hil
    · have hw : IntKind.i64.wrap ((i : Int) + 1) = ((i + 1 : Nat) : Int) := by rw [wrap64 (by omega) (by omega)]; omega
      have hg := getD_map (f := Chunk.row) hil
      have htk : (p.chunks.take (i + 1)).flatMap chunkPut = (p.chunks.take i).flatMap chunkPut ++ chunkPut p.chunks[i] := by rw [take_get hil, List.flatMap_append]; simp
      have hc := h6 _ (List.getElem_mem hil)
      have hcl := chunkPut_le hc
      have hrl := rest_le (p.chunks.take i) fun c hc => h6 c (List.mem_of_mem_take hc)
      rw [List.length_take] at hrl
      generalize p.chunks[i] = x at hg htk hc hcl
      simp only [hw, Int.toNat_natCast, hg, Chunk.row, hm, go_sem, ↓reduceIte]
      repeat' first | refine And.intro ?_ ?_ | intro _ | (refine call_pure (hP ▸ s_implChunkPut x hc) rfl rfl ?_; simp only [hw, Int.toNat_natCast, hg, Chunk.row, hm, go_sem, ↓reduceIte])
      all_goals first
        | omega
        | rfl
        | (refine ⟨i + 1, hil, by omega, ?_⟩; rw [htk]; (refine le_ev [] ?_; simp only [hm, go_sem, ↓reduceIte]; first | done | rfl | exact ⟨rfl, rfl⟩))
    · have : i = p.chunks.length := by omega
      subst this
      rw [List.take_length]
      simp only [hm, go_sem, ↓reduceIte]
      repeat' first | refine And.intro ?_ ?_ | intro _
      all_goals first
        | omega
        | (refine ⟨_, rfl, ?_⟩; unfold packRest; (refine le_ev [] ?_; simp only [hm, go_sem, ↓reduceIte]; first | done | rfl | exact ⟨rfl, rfl⟩))
  rintro t0 rfl
  rw [if_pos rfl]
  have hrl : (packRest p).length ≤ 256 := by have := rest_le p.chunks h6; unfold packRest; omega
  have hsum := sumOf_range (packHead p ++ [0, 0, 0, 0] ++ packRest p)
  refine run_wpc _ _ _ _ _ ?_
  simp only [List.length_append, List.length_cons, List.length_nil, hhl, hm, go_sem, ↓reduceIte]
  repeat' first | refine And.intro ?_ ?_ | intro _ | (refine call_pure (hP ▸ s_SumText (packHead p ++ [0, 0, 0, 0] ++ packRest p) (by simp only [List.length_append, List.length_cons, List.length_nil]; omega)) rfl rfl ?_; simp only [hm, go_sem, ↓reduceIte]) | (refine call_data (hP ▸ s_LongPut (sumOf (packHead p ++ [0, 0, 0, 0] ++ packRest p)) (by omega)) rfl rfl ?_; simp only [List.length_append, long_len, hhl, hm, go_sem, ↓reduceIte])
  all_goals first
    | omega
    | (unfold packPut packRaw; rw [hv]; rfl)
end Go.Cap

/- Contracts: bytes of packets (the reference's). -/
namespace Go.Cap
open Go Go.Proofs
set_option maxRecDepth 100000
set_option linter.unusedSimpArgs false
set_option linter.unusedVariables false
attribute [local irreducible] Call Run Spec Le

theorem s_specChunkValid (c : Chunk) : Spec Try.prog 184 0 [] [c.av] (fun r _ _ _ => r = .bo (chunkB c)) := by
  refine mk184 rfl fun cx hP hm => ?_
  unfold pc184 Chunk.av
  simp only [hm, go_sem, ↓reduceIte]
  repeat' first | refine And.intro ?_ ?_ | intro _ | (refine c_l6In hP ?_; simp only [hm, go_sem, ↓reduceIte])
  all_goals (apply bo_inj; rw [Bool.eq_iff_iff]; simp [chunkB, *] <;> omega)
theorem s_specPacketValid (p : Packet) (hl : p.chunks.length ≤ 1000000) : Spec Try.prog 136 0 [] [p.ro] (fun r _ _ _ => r = .bo (packB p)) := by
  refine mr136 rfl fun c hP hm => ?_
  unfold pc136 Packet.ro
  refine run_seq (run_wpc _ _ _ _ _ ?_)
  simp only [hm, go_sem, ↓reduceIte]
  refine run_seq (run_wpc _ _ _ _ _ ?_)
  simp only [hm, go_sem, ↓reduceIte]
  refine run_exit 0 (fun t0 => t0 = ⟨[(1, .ptr 0 0 0)], [(0, .var [.i p.fr, .i p.to, .i p.tag, .r (.ro none (p.chunks.map Chunk.row))])], 1, []⟩ ∧ p.chunks.all chunkB = true) ?_ ?_
  · refine lp_wpc (α := Nat) (fun i => ⟨[(1, .ptr 0 0 0), (3, .i i)], [(0, .var [.i p.fr, .i p.to, .i p.tag, .r (.ro none (p.chunks.map Chunk.row))])], 1, []⟩)
      (fun i => i ≤ p.chunks.length ∧ ∀ c ∈ p.chunks.take i, chunkB c = true) (fun i => p.chunks.length - i) 0 ⟨Nat.zero_le _, fun c hc => by simp at hc⟩ (by (refine le_ev [] ?_; simp only [hm, go_sem, ↓reduceIte]; first | done | rfl | exact ⟨rfl, rfl⟩)) ?_
    rintro i ⟨hi, hI⟩
    unfold pc136l0
    rcases Nat.lt_or_ge i p.chunks.length with hil | hil
    · have hw : IntKind.i64.wrap ((i : Int) + 1) = ((i + 1 : Nat) : Int) := by rw [wrap64 (by omega) (by omega)]; omega
      have hg := getD_map (f := Chunk.row) hil
      have htk := take_get hil
      have hmem := List.getElem_mem hil
      generalize p.chunks[i] = x at hg htk hmem
      have hok : chunkB x = false → AV.r (RV.b false) = AV.bo (packB p) := fun h => by
        apply bo_inj; symm; rw [Bool.eq_false_iff]; intro hh
        simp only [packB, Bool.and_eq_true, List.all_eq_true] at hh
        rw [hh.2 x hmem] at h; cases h
      simp only [hw, Int.toNat_natCast, hg, Chunk.row, hm, go_sem, ↓reduceIte]
      repeat' first | refine And.intro ?_ ?_ | intro _ | (refine call_pure (hP ▸ s_specChunkValid x) rfl rfl ?_; simp only [hw, Int.toNat_natCast, hg, Chunk.row, hm, go_sem, ↓reduceIte])
      all_goals first
        | omega
        | rfl
        | (rename_i hc; exact hok hc)
        | (rename_i hc
           refine ⟨i + 1, ⟨hil, fun y hy => ?_⟩, by omega, ?_⟩
           · rw [htk] at hy
             rcases List.mem_append.1 hy with hy | hy
             · exact hI y hy
             · simp only [List.mem_singleton] at hy; subst hy; exact hc
           · (refine le_ev [] ?_; simp only [hm, go_sem, ↓reduceIte]; first | done | rfl | exact ⟨rfl, rfl⟩))
    · have : i = p.chunks.length := by omega
      subst this
      rw [List.take_length] at hI
      have hall : p.chunks.all chunkB = true := List.all_eq_true.2 hI
      simp only [hm, go_sem, ↓reduceIte]
      repeat' first | refine And.intro ?_ ?_ | intro _
      all_goals first
        | omega
        | (refine ⟨_, ⟨rfl, hall⟩, ?_⟩; (refine le_ev [] ?_; simp only [hm, go_sem, ↓reduceIte]; first | done | rfl | exact ⟨rfl, rfl⟩))
  rintro t0 ⟨rfl, hall⟩
  rw [if_pos rfl]
  refine run_wpc _ _ _ _ _ ?_
  simp only [hm, go_sem, ↓reduceIte]
  repeat' first | refine And.intro ?_ ?_ | intro _ | (refine c_l6In hP ?_; simp only [hm, go_sem, ↓reduceIte])
  all_goals first
    | (apply bo_inj; rw [Bool.eq_iff_iff]; simp [packB, hall, *]; done)
    | (apply bo_inj; rw [Bool.eq_iff_iff]; simp [packB, hall, inB, *]; omega)
    | (apply bo_inj; rw [Bool.eq_iff_iff]; simp only [packB, hall, Bool.and_eq_true, decide_eq_true_eq, *]; simp [inB] at *; omega)
theorem s_l13Sum (s : List UInt8) (h : 12 ≤ s.length ∧ s.length ≤ 10000) : Spec Try.prog 208 0 [] [.st s] (fun r _ _ _ => r = .i (sumOf (s.take 8 ++ [0, 0, 0, 0] ++ s.drop 12))) := by
  refine mk208 rfl fun c hP hm => ?_
  unfold pc208
  have e8 : (8 : Int).toNat = 8 := by decide
  have e12 : (12 : Int).toNat = 12 := by decide
  have et : List.take s.length s = s := List.take_length
  simp only [e8, e12, et, Int.toNat_natCast, List.drop_zero, List.length_append, List.length_take, List.length_drop, List.length_cons, List.length_nil, hm, go_sem, ↓reduceIte]
  repeat' first | refine And.intro ?_ ?_ | intro _
  all_goals first
    | omega
    | (refine call_pure (hP ▸ s_l2Next (s.take 8 ++ [0, 0, 0, 0] ++ s.drop 12) (by simp only [List.length_append, List.length_take, List.length_drop, List.length_cons, List.length_nil]; omega)) rfl rfl ?_
       simp only [e8, e12, et, Int.toNat_natCast, List.drop_zero, List.length_append, List.length_take, List.length_drop, List.length_cons, List.length_nil, hm, go_sem, ↓reduceIte]
       repeat' first | refine And.intro ?_ ?_ | intro _
       all_goals first
         | omega
         | rfl
         )
theorem s_l13Put (p : Packet) (hv : packB p = true) : Spec Try.prog 174 0 [] [p.ro] (fun r _ _ _ => r = .st (packRaw p)) := by
  have h' := hv
  simp only [packB, inB, Bool.and_eq_true, decide_eq_true_eq, List.all_eq_true] at h'
  obtain ⟨⟨⟨⟨⟨h1, h2⟩, h3⟩, h4⟩, h5⟩, h6⟩ := h'
  have hhl := packHead_len p
  have hrl : (packRest p).length ≤ 256 := by have := rest_le p.chunks h6; unfold packRest; omega
  have hsum := sumOf_range (packHead p ++ [0, 0, 0, 0] ++ packRest p)
  refine mr174 rfl fun c hP hm => ?_
  unfold pc174 Packet.ro
  refine run_seq (run_wpc _ _ _ _ _ ?_)
  simp only [hm, go_sem, ↓reduceIte]
  refine run_join (fun t => t = ⟨[(1, .ptr 0 0 0), (3, .st (packHead p ++ [0, 0, 0, 0]))], [(0, .var [.i p.fr, .i p.to, .i p.tag, .r (.ro none (p.chunks.map Chunk.row))])], 1, []⟩) (run_wpc _ _ _ _ _ ?_) ?_
  · simp only [hm, go_sem, ↓reduceIte]
    repeat' first
      | refine And.intro ?_ ?_
      | intro _
      | (refine call_pure (hP ▸ s_l1Word p.fr (by omega)) rfl rfl ?_; simp only [word_len, long_len, List.length_append, hm, go_sem, ↓reduceIte])
      | (refine call_pure (hP ▸ s_l1Word p.to (by omega)) rfl rfl ?_; simp only [word_len, long_len, List.length_append, hm, go_sem, ↓reduceIte])
      | (refine call_pure (hP ▸ s_l1Long p.tag (by omega)) rfl rfl ?_; simp only [word_len, long_len, List.length_append, hm, go_sem, ↓reduceIte])
    all_goals first
      | omega
      | rfl
      | (refine ⟨_, rfl, ?_⟩; unfold packHead; (refine le_ev [] ?_; simp only [hm, go_sem, ↓reduceIte]; first | done | rfl | exact ⟨rfl, rfl⟩))
  rintro t rfl
  refine run_seq (run_wpc _ _ _ _ _ ?_)
  simp only [hm, go_sem, ↓reduceIte]
  refine run_exit 0 (fun t0 => t0 = ⟨[(3, .st (packHead p ++ [0, 0, 0, 0] ++ packRest p))], [], 0, []⟩) ?_ ?_
  · refine lp_wpc (α := Nat) (fun i => ⟨[(1, .ptr 0 0 0), (3, .st (packHead p ++ [0, 0, 0, 0] ++ (p.chunks.take i).flatMap chunkPut)), (4, .i i)], [(0, .var [.i p.fr, .i p.to, .i p.tag, .r (.ro none (p.chunks.map Chunk.row))])], 1, []⟩)
      (fun i => i ≤ p.chunks.length) (fun i => p.chunks.length - i) 0 (Nat.zero_le _) (by rw [List.take_zero, List.flatMap_nil, List.append_nil]; (refine le_ev [] ?_; simp only [hm, go_sem, ↓reduceIte]; first | done | rfl | exact ⟨rfl, rfl⟩)) ?_
    intro i hi
    unfold pc174l0
    rcases Nat.lt_or_ge i p.chunks.length with hil | hil
    · have hw : IntKind.i64.wrap ((i : Int) + 1) = ((i + 1 : Nat) : Int) := by rw [wrap64 (by omega) (by omega)]; omega
      have hg := getD_map (f := Chunk.row) hil
      have htk : (p.chunks.take (i + 1)).flatMap chunkPut = (p.chunks.take i).flatMap chunkPut ++ chunkPut p.chunks[i] := by rw [take_get hil, List.flatMap_append]; simp
      have hc := h6 _ (List.getElem_mem hil)
      have hcl := chunkPut_le hc
      have hrl2 := rest_le (p.chunks.take i) fun c hc => h6 c (List.mem_of_mem_take hc)
      rw [List.length_take] at hrl2
      generalize p.chunks[i] = x at hg htk hc hcl
      simp only [hw, Int.toNat_natCast, hg, Chunk.row, List.length_append, List.length_cons, List.length_nil, hhl, hm, go_sem, ↓reduceIte]
      repeat' first | refine And.intro ?_ ?_ | intro _ | (refine call_pure (hP ▸ s_l11Put x hc) rfl rfl ?_; simp only [hw, Int.toNat_natCast, hg, Chunk.row, List.length_append, List.length_cons, List.length_nil, hhl, hm, go_sem, ↓reduceIte])
      all_goals first
        | omega
        | rfl
        | (refine ⟨i + 1, hil, by omega, ?_⟩; rw [htk, ← List.append_assoc]; (refine le_ev [] ?_; simp only [hm, go_sem, ↓reduceIte]; first | done | rfl | exact ⟨rfl, rfl⟩))
    · have : i = p.chunks.length := by omega
      subst this
      rw [List.take_length]
      simp only [hm, go_sem, ↓reduceIte]
      repeat' first | refine And.intro ?_ ?_ | intro _
      all_goals first
        | omega
        | (refine ⟨_, rfl, ?_⟩; unfold packRest; (refine le_ev [] ?_; simp only [hm, go_sem, ↓reduceIte]; first | done | rfl | exact ⟨rfl, rfl⟩))
  rintro t0 rfl
  rw [if_pos rfl]
  refine run_wpc _ _ _ _ _ ?_
  have hh4 : (packHead p ++ [0, 0, 0, 0]).length = 12 := by rw [List.length_append, hhl]; rfl
  have hol : (packHead p ++ [0, 0, 0, 0] ++ packRest p).length = 12 + (packRest p).length := by rw [List.length_append, hh4]
  have ht8 : (packHead p ++ [0, 0, 0, 0] ++ packRest p).take 8 = packHead p := by rw [List.append_assoc, List.take_left' hhl]
  have hd12 : (packHead p ++ [0, 0, 0, 0] ++ packRest p).drop 12 = packRest p := List.drop_left' hh4
  have hss := s_l13Sum (packHead p ++ [0, 0, 0, 0] ++ packRest p) (by omega)
  rw [ht8, hd12] at hss
  have hraw : packRaw p = packHead p ++ long (sumOf (packHead p ++ [0, 0, 0, 0] ++ packRest p)) ++ packRest p := rfl
  rw [hraw]
  generalize sumOf (packHead p ++ [0, 0, 0, 0] ++ packRest p) = sm at hss hsum
  generalize hout : packHead p ++ [0, 0, 0, 0] ++ packRest p = out at hol ht8 hd12 hss
  have e8 : (8 : Int).toNat = 8 := by decide
  have e12 : (12 : Int).toNat = 12 := by decide
  have et : List.take out.length out = out := List.take_length
  simp only [e8, e12, et, ht8, hd12, Int.toNat_natCast, List.drop_zero, hm, go_sem, ↓reduceIte]
  repeat' first
    | refine And.intro ?_ ?_
    | intro _
    | (refine call_pure (hP ▸ hss) rfl rfl ?_; simp only [e8, e12, et, ht8, hd12, Int.toNat_natCast, List.drop_zero, List.length_append, long_len, hhl, hm, go_sem, ↓reduceIte])
    | (refine call_pure (hP ▸ s_l1Long sm (by omega)) rfl rfl ?_; simp only [e8, e12, et, ht8, hd12, Int.toNat_natCast, List.drop_zero, List.length_append, long_len, hhl, hm, go_sem, ↓reduceIte])
  all_goals first
    | omega
    | rfl
theorem s_specPacketPut (p : Packet) (hl : p.chunks.length ≤ 1000000) : Spec Try.prog 111 0 [] [p.ro] (fun r _ _ _ => r = .st (packPut p)) := by
  refine mk111 rfl fun c hP hm => ?_
  unfold pc111 Packet.ro
  simp only [hm, go_sem, ↓reduceIte]
  refine call_pure (hP ▸ s_specPacketValid p hl) rfl rfl ?_
  unfold packPut
  cases hv : packB p
  · simp only [hm, go_sem, ↓reduceIte]
  · simp only [hm, go_sem, ↓reduceIte]
    refine call_pure (hP ▸ s_l13Put p hv) rfl rfl ?_
    simp only [hm, go_sem, ↓reduceIte]
end Go.Cap

/- Contracts: captures are valid; the records of a talk, twice. -/
namespace Go.Cap
open Go Go.Proofs
set_option maxRecDepth 100000
set_option linter.unusedSimpArgs false
set_option linter.unusedVariables false
attribute [local irreducible] Call Run Spec Le

theorem recsFrom_drop {l : List Rec} {i : Nat} (h : i < l.length) (last : Int) : recsFrom last (l.drop i) = (inB l[i].time last 4294967295 && decide (l[i].text.length ≤ 120) && recsFrom l[i].time (l.drop (i + 1))) := by
  rw [List.drop_eq_getElem_cons h]; rfl
theorem s_implCaptureValid (l : List Rec) : Spec Try.prog 38 0 [] [.r (.ro none (l.map Rec.row))] (fun r _ _ _ => r = .bo (captB l)) := by
  refine mr38 rfl fun c hP hm => ?_
  unfold pc38
  refine run_seq (run_wpc _ _ _ _ _ ?_)
  simp only [hm, go_sem, ↓reduceIte]
  refine run_seq (run_wpc _ _ _ _ _ ?_)
  simp only [hm, go_sem, ↓reduceIte]
  repeat' first | refine And.intro ?_ ?_ | intro _
  all_goals first
    | (apply bo_inj; symm; rw [Bool.eq_false_iff]; intro hh; simp only [captB, Bool.and_eq_true, decide_eq_true_eq] at hh; omega)
    | skip
  refine run_wpc _ _ _ _ _ ?_
  simp only [hm, go_sem, ↓reduceIte]
  intro _
  refine lp_wpc (α := Nat × Int) (fun y => ⟨[(3, .i y.2), (9, .r (.ro none (l.map Rec.row))), (10, .i l.length), (11, .i y.1)], [], 0, []⟩)
    (fun y => y.1 ≤ l.length ∧ recsFrom y.2 (l.drop y.1) = recsFrom 0 l) (fun y => l.length - y.1) (0, 0) ⟨Nat.zero_le _, rfl⟩ (by (refine le_ev [] ?_; simp only [hm, go_sem, ↓reduceIte]; first | done | rfl | exact ⟨rfl, rfl⟩)) ?_
  rintro ⟨i, last⟩ ⟨hi, hI⟩
  simp only at hi hI
  unfold pc38l0
  rcases Nat.lt_or_ge i l.length with hil | hil
  · have hw : IntKind.i64.wrap ((i : Int) + 1) = ((i + 1 : Nat) : Int) := by rw [wrap64 (by omega) (by omega)]; omega
    rw [recsFrom_drop hil] at hI
    have hg := getD_map (f := Rec.row) hil
    generalize l[i] = x at hI hg
    have hok : recsFrom 0 l = false → AV.r (RV.b false) = AV.bo (captB l) := fun h => by simp [captB, h]
    unfold inB at hI
    simp only [hw, Int.toNat_natCast, hg, Rec.row, hm, go_sem, ↓reduceIte]
    repeat' first | refine And.intro ?_ ?_ | intro _
    all_goals first
      | omega
      | rfl
      | (refine hok ?_; rw [← hI, decide_eq_false (by omega)]; rfl)
      | (refine hok ?_; rw [← hI, decide_eq_false (p := x.text.length ≤ 120) (by omega)]; simp)
      | (rw [decide_eq_true (by omega), decide_eq_true (p := x.text.length ≤ 120) (by omega)] at hI
         refine ⟨(i + 1, x.time), ⟨hil, by simpa using hI⟩, ?_, ?_⟩
         · simp only; omega
         · (refine le_ev [] ?_; simp only [hm, go_sem, ↓reduceIte]; first | done | rfl | exact ⟨rfl, rfl⟩))
  · have : i = l.length := by omega
    subst this
    rw [List.drop_eq_nil_of_le (Nat.le_refl _)] at hI
    simp only [hm, go_sem, ↓reduceIte]
    repeat' first | refine And.intro ?_ ?_ | intro _
    all_goals first
      | omega
      | (apply bo_inj; symm; simp only [captB, Bool.and_eq_true, decide_eq_true_eq]; exact ⟨hI.symm, by omega⟩)
theorem s_l14Record (x : Rec) (last : Int) : Spec Try.prog 175 0 [] [x.av, .i last] (fun r _ _ _ => r = .bo (inB x.time last 4294967295 && decide (x.text.length ≤ 120))) := by
  refine mk175 rfl fun c hP hm => ?_
  unfold pc175 Rec.av
  simp only [hm, go_sem, ↓reduceIte]
  repeat' first | refine And.intro ?_ ?_ | intro _ | (refine c_l6In hP ?_; simp only [hm, go_sem, ↓reduceIte])
  all_goals (apply bo_inj; rw [Bool.eq_iff_iff]; simp [*] <;> omega)
theorem s_specCaptureValid (l : List Rec) (hl : l.length ≤ 1000000000) : Spec Try.prog 112 0 [] [.r (.ro none (l.map Rec.row))] (fun r _ _ _ => r = .bo (captB l)) := by
  refine mk112 rfl fun c hP hm => ?_
  unfold pc112
  simp only [hm, go_sem, ↓reduceIte]
  refine lp_wpc (α := Nat × Int) (fun y => ⟨[(0, .r (.ro none (l.map Rec.row))), (3, .i y.2), (4, .i y.1)], [], 0, []⟩)
    (fun y => y.1 ≤ l.length ∧ recsFrom y.2 (l.drop y.1) = recsFrom 0 l) (fun y => l.length - y.1) (0, 0) ⟨Nat.zero_le _, rfl⟩ (by (refine le_ev [] ?_; simp only [hm, go_sem, ↓reduceIte]; first | done | rfl | exact ⟨rfl, rfl⟩)) ?_
  rintro ⟨i, last⟩ ⟨hi, hI⟩
  simp only at hi hI
  unfold pc112l0
  rcases Nat.lt_or_ge i l.length with hil | hil
  · have hw : IntKind.i64.wrap ((i : Int) + 1) = ((i + 1 : Nat) : Int) := by rw [wrap64 (by omega) (by omega)]; omega
    rw [recsFrom_drop hil] at hI
    have hg := getD_map (f := Rec.row) hil
    generalize l[i] = x at hI hg
    have hok : recsFrom 0 l = false → AV.r (RV.b false) = AV.bo (captB l) := fun h => by simp [captB, h]
    have hcr := s_l14Record x last
    unfold Rec.av at hcr
    generalize (inB x.time last 4294967295 && decide (x.text.length ≤ 120)) = B at hI hcr
    simp only [hw, Int.toNat_natCast, hg, Rec.row, hm, go_sem, ↓reduceIte]
    repeat' first | refine And.intro ?_ ?_ | intro _ | (refine call_pure (hP ▸ hcr) rfl rfl ?_; simp only [hw, Int.toNat_natCast, hg, Rec.row, hm, go_sem, ↓reduceIte])
    all_goals first
      | omega
      | rfl
      | (rename_i hb; subst hb; refine hok ?_; rw [← hI]; rfl)
      | (rename_i hb; subst hb
         refine ⟨(i + 1, x.time), ⟨hil, by simpa using hI⟩, ?_, ?_⟩
         · simp only; omega
         · (refine le_ev [] ?_; simp only [hm, go_sem, ↓reduceIte]; first | done | rfl | exact ⟨rfl, rfl⟩))
  · have : i = l.length := by omega
    subst this
    rw [List.drop_eq_nil_of_le (Nat.le_refl _)] at hI
    simp only [hm, go_sem, ↓reduceIte]
    repeat' first | refine And.intro ?_ ?_ | intro _
    all_goals first
      | omega
      | (apply bo_inj; rw [Bool.eq_iff_iff]; simp only [captB, ← hI, recsFrom, Bool.true_and, decide_eq_true_eq]; omega)
/-- Records whose times may go round. -/
def recsW (l : List Packet) (begin : Int) : List Rec := (List.range l.length).map fun (i : Nat) => ⟨IntKind.i64.wrap (begin + (i : Int)), packPut (l.getD i default)⟩
theorem recsW_len (l : List Packet) (begin : Int) : (recsW l begin).length = l.length := by simp [recsW]
theorem recs_eq {l : List Packet} {begin : Int} (h : 0 ≤ begin ∧ begin ≤ 4294967295) (hl : l.length ≤ 1000) : recsW l begin = recsOf l begin := by
  unfold recsW recsOf
  refine List.map_congr_left fun i hi => ?_
  have := List.mem_range.1 hi
  rw [wrap64 (by omega) (by omega)]
theorem recs_bad {l : List Packet} {begin : Int} (h : 4294967295 < begin ∧ begin ≤ 9223372036854775807) (hl : l ≠ []) : captB (recsW l begin) = false ∧ captB (recsOf l begin) = false := by
  cases l with
  | nil => exact absurd rfl hl
  | cons p l =>
    have hi : inB begin 0 4294967295 = false := by unfold inB; rw [decide_eq_false (by omega)]
    have key : ∀ rs : List Rec, rs[0]? = some ⟨begin, packPut p⟩ → captB rs = false := fun rs hr => by
      cases rs with
      | nil => cases hr
      | cons x t =>
        have : x = ⟨begin, packPut p⟩ := by simpa using hr
        subst this
        simp [captB, recsFrom, hi]
    constructor
    · refine key _ ?_
      unfold recsW
      rw [List.getElem?_map, List.getElem?_range (by simp)]
      show some (Rec.mk (IntKind.i64.wrap (begin + ((0 : Nat) : Int))) (packPut p)) = _
      rw [wrap64 (by omega) (by omega)]; simp
    · refine key _ ?_
      unfold recsOf
      rw [List.getElem?_map, List.getElem?_range (by simp)]
      show some (Rec.mk (begin + ((0 : Nat) : Int)) (packPut p)) = _
      simp
theorem talkRecs_eq {t : Talk} {begin : Int} (hb : begin ≤ 9223372036854775807) (hl : (talkPk t).length ≤ 1000) : talkRecs t begin = if 0 ≤ begin ∧ captB (recsW (talkPk t) begin) = true then recsW (talkPk t) begin else [] := by
  unfold talkRecs
  by_cases h0 : 0 ≤ begin
  · by_cases h1 : begin ≤ 4294967295
    · rw [recs_eq ⟨h0, h1⟩ hl]
    · by_cases hn : talkPk t = []
      · rw [hn]; simp [recsOf, recsW]
      · obtain ⟨k1, k2⟩ := recs_bad (l := talkPk t) (begin := begin) ⟨by omega, hb⟩ hn
        rw [if_neg (by rw [k2]; simp), if_neg (by rw [k1]; simp)]
  · rw [if_neg (fun h => h0 h.1), if_neg (fun h => h0 h.1)]
theorem recsW_take {l : List Packet} {begin : Int} {i : Nat} (h : i < l.length) : (recsW l begin).take (i + 1) = (recsW l begin).take i ++ [⟨IntKind.i64.wrap (begin + (i : Int)), packPut l[i]⟩] := by
  have hi : i < (recsW l begin).length := by rw [recsW_len]; exact h
  have he : (recsW l begin)[i]? = some ⟨IntKind.i64.wrap (begin + (i : Int)), packPut l[i]⟩ := by
    unfold recsW
    rw [List.getElem?_map, List.getElem?_range h]
    simp [List.getD_eq_getElem?_getD, h]
  rw [take_get hi, Option.some.inj ((List.getElem?_eq_getElem hi).symm.trans he)]
theorem talkPk_small {t : Talk} : (talkPk t).length ≤ 60 := by
  by_cases hv : talkB t = true
  · have h1 := talkParts_12 t false hv
    have h2 := talkParts_12 t true hv
    rw [talkPk_len hv]; omega
  · have : talkPk t = [] := by unfold talkPk; rw [if_neg hv]
    rw [this]; simp
theorem talkPk_one {t : Talk} {i : Nat} (h : i < (talkPk t).length) : ((talkPk t)[i]).chunks.length ≤ 1000000 := by
  by_cases hv : talkB t = true
  · rw [(talkPk_props hv h).2.1]; decide
  · have : talkPk t = [] := by unfold talkPk; rw [if_neg hv]
    rw [this] at h; simp at h
theorem s_specTalkRecords (t : Talk) (begin : Int) (hb : begin ≤ 9223372036854775807) (hl : t.says.length ≤ 1048576) (hx : ∀ s ∈ t.says, s.text.length ≤ 1048576) : Spec Try.prog 35 0 [] [t.ro, .i begin] (New1 (.sl 0 0 (talkRecs t begin).length) 2 ((talkRecs t begin).map Rec.row)) := by
  refine Spec.new1 (r0 := .sl 0 0 (talkRecs t begin).length) (Q := fun r hp _ _ => ∃ b, r = .sl b 0 (talkRecs t begin).length ∧ hget hp b = some (.row 2 ((talkRecs t begin).map Rec.row))) ?_ (fun r hp nx gs h => h) (fun f g h => by simp only [go_sem, h])
  have hsm := talkPk_small (t := t)
  rw [talkRecs_eq hb (by omega)]
  have hone := fun i (h : i < (talkPk t).length) => talkPk_one h
  refine mr35 rfl fun c hP hm => ?_
  unfold pc35 Talk.ro Talk.av
  refine run_seq (run_wpc _ _ _ _ _ ?_)
  simp only [hm, go_sem, ↓reduceIte]
  refine run_seq (run_wpc _ _ _ _ _ ?_)
  simp only [hm, go_sem, ↓reduceIte]
  refine run_seq (run_wpc _ _ _ _ _ ?_)
  simp only [hm, go_sem, ↓reduceIte]
  refine call_dataP (hP ▸ s_specTalkPackets t hl hx) rfl rfl ?_
  simp only [hm, go_sem, ↓reduceIte]
  generalize talkPk t = l at hsm hone
  refine run_seq (run_wpc _ _ _ _ _ ?_)
  simp only [hm, go_sem, ↓reduceIte]
  refine run_exit 0 (fun t0 => t0 = ⟨[(1, .i begin), (5, .sl 0 0 (recsW l begin).length)], [(0, .row 2 ((recsW l begin).map Rec.row))], 1, []⟩) ?_ ?_
  · refine lp_wpc (α := Nat) (fun i => ⟨[(1, .i begin), (5, .sl 0 0 ((recsW l begin).take i).length), (6, .r (.ro none (l.map Packet.row))), (7, .i i)], [(0, .row 2 (((recsW l begin).take i).map Rec.row))], 1, []⟩)
      (fun i => i ≤ l.length) (fun i => l.length - i) 0 (Nat.zero_le _) (by rw [List.take_zero]; simp only [List.map_nil, List.length_nil]; (refine le_ev [(0, 1)] ?_; simp only [hm, go_sem, ↓reduceIte]; first | done | rfl | exact ⟨rfl, rfl⟩)) ?_
    intro i hi
    unfold pc35l0
    rcases Nat.lt_or_ge i l.length with hil | hil
    · have hw : IntKind.i64.wrap ((i : Int) + 1) = ((i + 1 : Nat) : Int) := by rw [wrap64 (by omega) (by omega)]; omega
      have hg := getD_map (f := Packet.row) hil
      have htk := recsW_take (begin := begin) hil
      have hc1 := hone i hil
      have hlt : ((recsW l begin).take i).length ≤ 60 := by rw [List.length_take]; omega
      generalize l[i] = p at hg htk hc1
      generalize (recsW l begin).take i = rs at htk hlt
      have hrt : List.take rs.length (rs.map Rec.row) = rs.map Rec.row := List.take_of_length_le (by simp)
      simp only [hw, hrt, Int.toNat_natCast, hg, Packet.row, hm, go_sem, ↓reduceIte]
      repeat' first | refine And.intro ?_ ?_ | intro _ | (refine call_pure (hP ▸ s_specPacketPut p hc1) rfl rfl ?_; simp only [hw, hrt, Int.toNat_natCast, hg, Packet.row, hm, go_sem, ↓reduceIte])
      all_goals first
        | omega
        | rfl
        | (refine ⟨i + 1, hil, by omega, ?_⟩
           rw [htk]
           simp only [List.map_append, List.length_append, List.length_cons, List.length_nil, List.map_cons, List.map_nil, Rec.row]
           (refine le_ev [(0, 0)] ?_; simp only [hm, go_sem, ↓reduceIte]; first | done | rfl | exact ⟨rfl, rfl⟩))
    · have : i = l.length := by omega
      subst this
      have htl : (recsW l begin).take l.length = recsW l begin := by rw [← recsW_len l begin, List.take_length]
      rw [htl]
      simp only [hm, go_sem, ↓reduceIte]
      repeat' first | refine And.intro ?_ ?_ | intro _
      all_goals first
        | omega
        | (refine ⟨_, rfl, ?_⟩; (refine le_ev [] ?_; simp only [hm, go_sem, ↓reduceIte]; first | done | rfl | exact ⟨rfl, rfl⟩))
  rintro t0 rfl
  rw [if_pos rfl]
  have hwl := recsW_len l begin
  generalize recsW l begin = rs at hwl
  refine run_wpc _ _ _ _ _ ?_
  simp only [hm, go_sem, ↓reduceIte]
  repeat' first | refine And.intro ?_ ?_ | intro _ | (refine call_flat (hP ▸ s_specCaptureValid rs (by omega)) rfl (.cons (Vw.full rfl (by simp)) .nil) ?_; simp only [hm, go_sem, ↓reduceIte])
  all_goals first
    | omega
    | (rename_i hv; rw [if_neg (fun h => by omega)]; exact ⟨1, rfl, rfl⟩)
    | (rename_i hv; rw [if_neg (fun h => by rw [hv] at h; cases h.2)]; exact ⟨1, rfl, rfl⟩)
    | (rename_i h0 hv; rw [if_pos ⟨by omega, hv⟩]; exact ⟨0, rfl, rfl⟩)
end Go.Cap

/- Contracts: the records of a talk (the program's); draws; equality of records. -/
namespace Go.Cap
open Go Go.Proofs
set_option maxRecDepth 100000
set_option linter.unusedSimpArgs false
set_option linter.unusedVariables false
attribute [local irreducible] Call Run Spec Le

/-- The program's TalkRecords: nothing, or an own block. -/
def recsGood (l : List Packet) (n : Int) : Prop := 0 ≤ n ∧ n ≤ 4294967295 ∧ captB (recsW l n) = true
theorem s_implTalkRecordsG (t : Talk) (begin : Int) (hb : begin ≤ 9223372036854775807) (hl : t.says.length ≤ 1048576) (hx : ∀ s ∈ t.says, s.text.length ≤ 1048576) :
    Spec Try.prog 34 0 [] [t.ro, .i begin] (fun r hp _ _ => (r = .r .nil ∧ talkRecs t begin = [] ∧ ¬ recsGood (talkPk t) begin) ∨ (recsGood (talkPk t) begin ∧ ∃ b, r = .sl b 0 (talkRecs t begin).length ∧ hget hp b = some (.row 2 ((talkRecs t begin).map Rec.row)))) := by
  have hsm := talkPk_small (t := t)
  have hone := fun i (h : i < (talkPk t).length) => talkPk_one h
  have hbad : begin < 0 ∨ 4294967295 < begin → talkRecs t begin = [] := fun h => by
    rw [talkRecs_eq hb (by omega)]
    by_cases hn : talkPk t = []
    · rw [hn]; simp [recsW]
    · rcases h with h | h
      · rw [if_neg (fun k => by omega)]
      · rw [if_neg (fun k => by rw [(recs_bad ⟨h, hb⟩ hn).1] at k; cases k.2)]
  have heq := talkRecs_eq (t := t) (begin := begin) hb (by omega)
  generalize talkRecs t begin = TR at hbad heq
  refine mr34 rfl fun c hP hm => ?_
  unfold pc34 Talk.ro Talk.av
  refine run_seq (run_wpc _ _ _ _ _ ?_)
  simp only [hm, go_sem, ↓reduceIte]
  refine run_seq (run_wpc _ _ _ _ _ ?_)
  simp only [hm, go_sem, ↓reduceIte]
  refine call_dataP (hP ▸ s_implTalkPackets t hl hx) rfl rfl ?_
  simp only [hm, go_sem, ↓reduceIte]
  generalize talkPk t = l at hsm hone heq
  refine run_seq (run_wpc _ _ _ _ _ ?_)
  simp only [hm, go_sem, ↓reduceIte]
  repeat' first | refine And.intro ?_ ?_ | intro _
  all_goals first
    | (refine .inl ⟨hbad ?_, fun h => ?_⟩; omega; exact absurd h.1 (by omega))
    | (refine .inl ⟨hbad ?_, fun h => ?_⟩; omega; exact absurd h.2.1 (by omega))
    | (refine .inl ⟨rfl, hbad ?_, fun h => ?_⟩; omega; exact absurd h.1 (by omega))
    | (refine .inl ⟨rfl, hbad ?_, fun h => ?_⟩; omega; exact absurd h.2.1 (by omega))
    | skip
  refine run_seq (run_wpc _ _ _ _ _ ?_)
  simp only [hm, go_sem, ↓reduceIte]
  refine run_seq (run_wpc _ _ _ _ _ ?_)
  simp only [hm, go_sem, ↓reduceIte]
  intro _
  refine run_exit 0 (fun t0 => t0 = ⟨[(6, .sl 0 0 (recsW l begin).length)], [(0, .row 2 ((recsW l begin).map Rec.row))], 1, []⟩) ?_ ?_
  · refine lp_wpc (α := Nat) (fun i => ⟨[(1, .i begin), (6, .sl 0 0 ((recsW l begin).take i).length), (18, .r (.ro none (l.map Packet.row))), (19, .i l.length), (20, .i i)], [(0, .row 2 (((recsW l begin).take i).map Rec.row))], 1, []⟩)
      (fun i => i ≤ l.length) (fun i => l.length - i) 0 (Nat.zero_le _) (by rw [List.take_zero]; simp only [List.map_nil, List.length_nil]; (refine le_ev [(0, 1)] ?_; simp only [hm, go_sem, ↓reduceIte]; first | done | rfl | exact ⟨rfl, rfl⟩)) ?_
    intro i hi
    unfold pc34l0
    rcases Nat.lt_or_ge i l.length with hil | hil
    · have hw : IntKind.i64.wrap ((i : Int) + 1) = ((i + 1 : Nat) : Int) := by rw [wrap64 (by omega) (by omega)]; omega
      have hg := getD_map (f := Packet.row) hil
      have htk := recsW_take (begin := begin) hil
      have hlt : ((recsW l begin).take i).length ≤ 60 := by rw [List.length_take]; omega
      generalize l[i] = p at hg htk
      generalize (recsW l begin).take i = rs at htk hlt
      have hrt : List.take rs.length (rs.map Rec.row) = rs.map Rec.row := List.take_of_length_le (by simp)
      simp only [hw, hrt, Int.toNat_natCast, hg, Packet.row, hm, go_sem, ↓reduceIte]
      repeat' first | refine And.intro ?_ ?_ | intro _ | (refine call_pure (hP ▸ s_implPacketPut p) rfl rfl ?_; simp only [hw, hrt, Int.toNat_natCast, hg, Packet.row, hm, go_sem, ↓reduceIte])
      all_goals first
        | omega
        | rfl
        | (refine ⟨i + 1, hil, by omega, ?_⟩
           rw [htk]
           simp only [List.map_append, List.length_append, List.length_cons, List.length_nil, List.map_cons, List.map_nil, Rec.row]
           (refine le_ev [(0, 0)] ?_; simp only [hm, go_sem, ↓reduceIte]; first | done | rfl | exact ⟨rfl, rfl⟩))
    · have : i = l.length := by omega
      subst this
      have htl : (recsW l begin).take l.length = recsW l begin := by rw [← recsW_len l begin, List.take_length]
      rw [htl]
      simp only [hm, go_sem, ↓reduceIte]
      repeat' first | refine And.intro ?_ ?_ | intro _
      all_goals first
        | omega
        | (refine ⟨_, rfl, ?_⟩; (refine le_ev [] ?_; simp only [hm, go_sem, ↓reduceIte]; first | done | rfl | exact ⟨rfl, rfl⟩))
  rintro t0 rfl
  rw [if_pos rfl]
  have hwl := recsW_len l begin
  have hs : recsGood l begin ↔ captB (recsW l begin) = true := ⟨fun h => h.2.2, fun h => ⟨by omega, by omega, h⟩⟩
  generalize recsW l begin = rs at hwl heq hs
  refine run_wpc _ _ _ _ _ ?_
  simp only [hm, go_sem, ↓reduceIte]
  refine call_flat (hP ▸ s_implCaptureValid rs) rfl (.cons (Vw.full rfl (by simp)) .nil) ?_
  simp only [hm, go_sem, ↓reduceIte]
  repeat' first | refine And.intro ?_ ?_ | intro _
  all_goals first
    | omega
    | (rename_i hv; left; refine ⟨?_, fun h => by rw [hs, hv] at h; cases h⟩; rw [heq, if_neg (fun h => by rw [hv] at h; cases h.2)])
    | (rename_i hv; left; refine ⟨rfl, ?_, fun h => by rw [hs, hv] at h; cases h⟩; rw [heq, if_neg (fun h => by rw [hv] at h; cases h.2)])
    | (rename_i hv; right; refine ⟨hs.2 hv, ?_⟩; rw [heq, if_pos ⟨by omega, hv⟩]; exact ⟨0, rfl, rfl⟩)
end Go.Cap

/- Contracts: marks and equality of records. -/
namespace Go.Cap
open Go Go.Proofs
set_option maxRecDepth 100000
set_option linter.unusedSimpArgs false
set_option linter.unusedVariables false
attribute [local irreducible] Call Run Spec Le

def markRec (n : Int) : Rec := ⟨n, markT (n + 1)⟩
theorem recClosed (l : List Rec) : closL2 (l.map Rec.row) := closL2_map (fun s x hx => by
  simp only [Rec.row, List.mem_cons, List.not_mem_nil, or_false] at hx
  rcases hx with rfl | rfl <;> rfl) l
theorem s_markRecordS (l : List Rec) (n : Int) (hn : 0 ≤ n ∧ n ≤ 1000) (hl : l.length ≤ 4000000) : Spec Try.prog 40 1 [(0, .row 2 (l.map Rec.row))] [.sl 0 0 l.length, .i n] (Named fun r B => r = .i (n + 2 * l.length) ∧ B = .row 2 ((marks markRec 2 l.length n).map Rec.row)) := by
  refine Spec.named ?_
  refine mk40 rfl fun c hP hm => ?_
  unfold pc40
  simp only [go_sem, ↓reduceIte]
  refine run_exit 0 (fun t0 => t0 = ⟨[(1, .i (n + 2 * l.length))], [(0, .row 2 ((marks markRec 2 l.length n).map Rec.row))], 1, []⟩) ?_ (fun t0 h => by rw [h]; simp only [go_sem, ↓reduceIte]; exact ⟨_, rfl, rfl, rfl⟩)
  refine lp_wpc (α := Nat) (fun i => ⟨[(0, .sl 0 0 l.length), (1, .i (n + 2 * i)), (5, .i i)], [(0, .row 2 ((marks markRec 2 i n).map Rec.row ++ (l.drop i).map Rec.row))], 1, []⟩) (fun i => i ≤ l.length) (fun i => l.length - i) 0 (Nat.zero_le _) (le_eq (by simp [marks])) ?_
  intro i hi
  unfold pc40l0
  rcases Nat.lt_or_ge i l.length with hil | hil
  · have hM : ((marks markRec 2 i n).map Rec.row).length = i := by rw [List.length_map, marks_len]
    have hA := congrArg (List.map Rec.row) (marks_succ markRec 2 i n)
    rw [List.map_append, List.map_cons, List.map_nil] at hA
    rw [mid_drop hil]
    generalize (marks markRec 2 i n).map Rec.row = A at hM hA
    have hBl : ((l.drop (i + 1)).map Rec.row).length = l.length - (i + 1) := by simp
    generalize hB : (l.drop (i + 1)).map Rec.row = B at hBl
    simp only [Int.toNat_natCast, mid_get hM, mid_set hM, mid_len, Rec.row, go_sem, ↓reduceIte]
    simp (disch := omega) only [wrap64]
    intro _
    refine ⟨fun hlt => ?_, fun hge => absurd hge (by omega)⟩
    repeat' refine And.intro ?_ ?_
    all_goals first
      | omega
      | (refine call_pure (hP ▸ s_markText _ (by omega)) rfl rfl ?_
         simp only [Int.toNat_natCast, mid_get hM, mid_set hM, mid_len, go_sem, ↓reduceIte]
         simp (disch := omega) only [wrap64]
         refine ⟨⟨by omega, by omega⟩, by omega, i + 1, hil, by omega, le_ev [] ?_⟩
         rw [hA, hB]
         simp only [hm, markRec, div3, Rec.row, List.append_assoc, Int.natCast_add, Int.mul_add, Int.add_assoc, Int.reduceAdd, go_sem, ↓reduceIte]
         rfl)
  · have : i = l.length := by omega
    subst this
    simp only [go_sem, ↓reduceIte]
    exact fun _ => ⟨_, rfl, le_ev [] (by simp only [hm, List.drop_length, go_sem, ↓reduceIte])⟩
theorem s_markRecordS_nil (n : Int) : Spec Try.prog 40 0 [] [.r .nil, .i n] (fun r _ _ _ => r = .i n) := by
  refine mk40 rfl fun c hP hm => ?_
  unfold pc40
  simp only [go_sem, ↓reduceIte]
  refine lp_wpc (α := Unit) (fun _ => ⟨[(0, .r .nil), (1, .i n), (5, .i 0)], [], 0, []⟩) (fun _ => True) (fun _ => 0) () trivial (Le.refl _) ?_
  intro i hi
  unfold pc40l0
  simp only [go_sem, ↓reduceIte]
theorem s_heldRecordS (k : Nat) (n : Int) (hn : 0 ≤ n ∧ n ≤ 1000) (hk : k ≤ 1000000) : Spec Try.prog 41 0 [] [.r (.ro none ((marks markRec 2 k n).map Rec.row)), .i n] (fun r _ _ _ => r = .i (n + 2 * k)) := by
  refine mk41 rfl fun c hP hm => ?_
  unfold pc41
  simp only [go_sem, ↓reduceIte]
  have hlen : (marks markRec 2 k n).length = k := marks_len ..
  refine lp_wpc (α := Nat) (fun i => ⟨[(0, .r (.ro none ((marks markRec 2 k n).map Rec.row))), (1, .i (n + 2 * i)), (5, .i i)], [], 0, []⟩) (fun i => i ≤ k) (fun i => k - i) 0 (Nat.zero_le _) (le_eq (by simp)) ?_
  intro i hi
  unfold pc41l0
  rcases Nat.lt_or_ge i k with hik | hik
  · have hil : i < (marks markRec 2 k n).length := by omega
    have hg : (marks markRec 2 k n)[i] = markRec (n + 2 * i) := by
      have := marks_get markRec 2 n hik
      rw [List.getElem?_eq_getElem hil] at this
      exact Option.some.inj this
    simp only [Int.toNat_natCast, getD_map hil, hg, hlen, markRec, Rec.row, go_sem, ↓reduceIte]
    simp (disch := omega) only [wrap64]
    simp only [div3, Int.add_assoc, Int.reduceAdd, go_sem, ↓reduceIte]
    intro _
    refine ⟨fun hlt => ?_, fun hge => absurd hge (by omega)⟩
    repeat' refine And.intro ?_ ?_
    all_goals first
      | omega
      | (refine call_pure (hP ▸ s_markText _ (by omega)) rfl rfl ?_
         simp only [Int.toNat_natCast, getD_map hil, hg, markRec, div3, Rec.row, Int.add_assoc, Int.reduceAdd, go_sem, ↓reduceIte]
         simp (disch := omega) only [wrap64]
         repeat' refine And.intro ?_ ?_
         all_goals first
           | omega
           | exact ⟨i + 1, hik, by omega, le_eq (by simp only [Int.natCast_add, Int.mul_add, Int.add_assoc, Int.reduceAdd]; rfl)⟩)
  · have : i = k := by omega
    subst this
    simp only [hlen, go_sem, ↓reduceIte]
theorem s_heldRecordS_nil (n : Int) : Spec Try.prog 41 0 [] [.r .nil, .i n] (fun r _ _ _ => r = .i n) := by
  refine mk41 rfl fun c hP hm => ?_
  unfold pc41
  simp only [go_sem, ↓reduceIte]
  refine lp_wpc (α := Unit) (fun _ => ⟨[(0, .r .nil), (1, .i n), (5, .i 0)], [], 0, []⟩) (fun _ => True) (fun _ => 0) () trivial (Le.refl _) ?_
  intro i hi
  unfold pc41l0
  simp only [go_sem, ↓reduceIte]
theorem s_eqRecord (x : Rec) : Spec Try.prog 117 0 [] [x.av, x.av] (fun r _ _ _ => r = .bo true) := by
  refine mk117 rfl fun c hP hm => ?_
  unfold pc117 Rec.av
  simp only [go_sem, ↓reduceIte]
theorem s_eqRecordS (l : List Rec) : Spec Try.prog 39 0 [] [.r (.ro none (l.map Rec.row)), .r (.ro none (l.map Rec.row))] (fun r _ _ _ => r = .bo true) := by
  refine mk39 rfl fun c hP hm => ?_
  unfold pc39
  simp only [go_sem, ↓reduceIte]
  intro hlen _
  refine lp_wpc (α := Nat) (fun i => ⟨[(0, .r (.ro none (l.map Rec.row))), (1, .r (.ro none (l.map Rec.row))), (5, .i i)], [], 0, []⟩) (fun i => i ≤ l.length) (fun i => l.length - i) 0 (Nat.zero_le _) (Le.refl _) ?_
  intro i hi
  unfold pc39l0
  simp only [go_sem, ↓reduceIte]
  intro _
  intro hlt
  have hil : i < l.length := by omega
  simp only [Int.toNat_natCast, getD_map hil, Rec.row, go_sem, ↓reduceIte]
  refine ⟨⟨by omega, by omega⟩, ⟨by omega, by omega⟩, ?_⟩
  refine call_pure (hP ▸ s_eqRecord l[i]) rfl rfl ?_
  simp only [go_sem, ↓reduceIte]
  rw [wrap64 (by omega) (by omega)]
  exact ⟨i + 1, hil, by omega, Le.refl _⟩
theorem s_eqRecordS_nil : Spec Try.prog 39 0 [] [.r .nil, .r (.ro none [])] (fun r _ _ _ => r = .bo true) := by
  refine mk39 rfl fun c hP hm => ?_
  unfold pc39
  simp only [go_sem, ↓reduceIte]
  refine lp_wpc (α := Unit) (fun _ => ⟨[(0, .r .nil), (1, .r (.ro none [])), (5, .i 0)], [], 0, []⟩) (fun _ => True) (fun _ => 0) () trivial (Le.refl _) ?_
  intro i hi
  unfold pc39l0
  simp only [go_sem, ↓reduceIte]
end Go.Cap
