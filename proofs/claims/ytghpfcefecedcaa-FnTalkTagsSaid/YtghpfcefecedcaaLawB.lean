import Derived.Test.YtghpfcefecedcaaLawA
import Derived.Test.YtghpfcefecedcaaPc
/- Contracts: the packets of a talk (the program's). -/
namespace Go.Cap
open Go Go.Proofs
set_option maxRecDepth 100000
set_option linter.unusedSimpArgs false
set_option linter.unusedVariables false
attribute [local irreducible] Call Run Spec Le

abbrev Talk.cells (t : Talk) : List AV := [.i t.fr, .i t.to, .i t.a.tag, .i t.a.window, .i t.a.streams, .i t.a.tsn, .i t.b.tag, .i t.b.window, .i t.b.streams, .i t.b.tsn, .i t.size, .r (.ro none (t.says.map Say.row))]
/-- A packet as it is sent. -/
def sendPk (t : Talk) (byB : Bool) (c : Chunk) (tag : Int) : Packet := if byB then ⟨t.to, t.fr, tag, [c]⟩ else ⟨t.fr, t.to, tag, [c]⟩
theorem s_send (t : Talk) (byB : Bool) (c : Chunk) (tag : Int) (L : List (List RV)) (hL : L.length ≤ 100000) :
    Spec Try.prog 86 3 [(0, .var t.cells), (1, .var [.sl 2 0 L.length]), (2, .row 4 L)] [.bo byB, c.av, .i tag, .ptr 0 0 0, .ptr 1 0 0]
      (fun r hp nx gs => r = .tup [] ∧ hp = [(0, .var t.cells), (1, .var [.sl 3 0 (L.length + 1)]), (3, .row 4 (L ++ [(sendPk t byB c tag).row]))] ∧ nx = 4 ∧ gs = []) := by
  refine Spec.le (Q := fun r hp nx gs => r = .tup [] ∧ ∃ b, b ≠ 0 ∧ b ≠ 1 ∧ hget hp 0 = some (.var t.cells) ∧ hget hp 1 = some (.var [.sl b 0 (L.length + 1)]) ∧ hget hp b = some (.row 4 (L ++ [(sendPk t byB c tag).row]))) ?_ ?_
  · refine mr86 rfl fun cx hP hm => ?_
    unfold pc86 Chunk.av Talk.cells
    refine run_seq (run_wpc _ _ _ _ _ ?_)
    simp only [hm, go_sem, ↓reduceIte]
    refine run_seq (run_wpc _ _ _ _ _ ?_)
    simp only [hm, go_sem, ↓reduceIte]
    refine run_frz 4 rfl (by first | (simp only [hm, List.length_map, go_sem, ↓reduceIte]; done) | (simp only [hm, List.length_map, go_sem, ↓reduceIte]; omega)) (by first | (simp only [hm, List.length_map, go_sem, ↓reduceIte]; done) | (simp only [hm, List.length_map, go_sem, ↓reduceIte]; omega)) ?_; simp only [hm, take_map_len, List.drop_zero, go_sem, ↓reduceIte]
    refine run_wpc _ _ _ _ _ ?_
    have hrw : List.take L.length L = L := List.take_length
    unfold sendPk
    cases byB
    · simp only [hrw, Bool.false_eq_true, if_false, Packet.row, List.map_cons, List.map_nil, Chunk.row, hm, go_sem, ↓reduceIte]
      refine ⟨by omega, _, ?_, ?_, rfl, rfl⟩
      all_goals decide
    · simp only [hrw, if_true, Packet.row, List.map_cons, List.map_nil, Chunk.row, hm, go_sem, ↓reduceIte]
      refine ⟨by omega, _, ?_, ?_, rfl, rfl⟩
      all_goals decide
  · rintro r hp nx gs ⟨rfl, b, n0, n1, h0, h1, h2⟩
    refine ⟨.tup [], _, 4, [], ⟨rfl, rfl, rfl, rfl⟩, fun cx hc => ?_⟩
    refine le_ev [(3, b)] ?_
    simp only [hc, go_sem, ↓reduceIte, h0, h1, h2]
    rintro (h | h)
    · exact n1 h
    · exact n0 h
theorem c_send {cx : Cx} (hP : cx.P = Try.prog) {t : Talk} {byB : Bool} {c : Chunk} {tag : Int} {L : List (List RV)} (hL : L.length ≤ 100000) {s : St} {K : AV → St → Prop} (b0 b1 b2 : Nat) (hnd : [b0, b1, b2].Nodup)
    (h0 : hget s.hp b0 = some (.var t.cells)) (h1 : hget s.hp b1 = some (.var [.sl b2 0 L.length])) (h2 : hget s.hp b2 = some (.row 4 L))
    (hK : K (.tup []) ⟨s.sl, (b0, .var t.cells) :: (b1, .var [.sl s.nx 0 (L.length + 1)]) :: (s.nx, .row 4 (L ++ [(sendPk t byB c tag).row])) :: hdel (hdel (hdel s.hp b0) b1) b2, s.nx + 1, s.gs⟩) : Call cx 86 [.bo byB, c.av, .i tag, .ptr b0 0 0, .ptr b1 0 0] s K := by
  refine call_spec [b0, b1, b2] (hP ▸ s_send t byB c tag L hL) hnd ?_ ?_ ?_ fun r hp' nx' gs' h => ?_
  · intro p hp
    simp only [List.mem_cons, List.mem_singleton, List.not_mem_nil, or_false] at hp
    rcases hp with rfl | rfl | rfl
    · exact ⟨by simp, by rw [show idf [b0, b1, b2] s.nx 0 = b0 from rfl, h0]; rfl⟩
    · exact ⟨by simp, by rw [show idf [b0, b1, b2] s.nx 1 = b1 from rfl, h1]; rfl⟩
    · exact ⟨by simp, by rw [show idf [b0, b1, b2] s.nx 2 = b2 from rfl, h2]; rfl⟩
  · intro j hj
    have : j = 0 ∨ j = 1 ∨ j = 2 := by simp at hj; omega
    rcases this with rfl | rfl | rfl
    · exact ⟨_, List.mem_cons_self ..⟩
    · exact ⟨_, List.mem_cons_of_mem _ (List.mem_cons_self ..)⟩
    · exact ⟨_, List.mem_cons_of_mem _ (List.mem_cons_of_mem _ (List.mem_cons_self ..))⟩
  · rfl
  · obtain ⟨rfl, rfl, rfl, rfl⟩ := h
    exact hK
theorem s_say (t : Talk) (byB : Bool) (c : Chunk) (L : List (List RV)) (hL : L.length ≤ 100000) :
    Spec Try.prog 87 4 [(0, .var t.cells), (1, .var [.sl 2 0 L.length]), (2, .row 4 L), (3, .var [.fn 86 [.ptr 0 0 0, .ptr 1 0 0]])] [.bo byB, c.av, .ptr 3 0 0, .ptr 0 0 0]
      (fun r hp nx gs => r = .tup [] ∧ hp = [(0, .var t.cells), (1, .var [.sl 4 0 (L.length + 1)]), (4, .row 4 (L ++ [(onePk t byB c).row])), (3, .var [.fn 86 [.ptr 0 0 0, .ptr 1 0 0]])] ∧ nx = 5 ∧ gs = []) := by
  refine Spec.le (Q := fun r hp nx gs => r = .tup [] ∧ ∃ b, b ≠ 0 ∧ b ≠ 1 ∧ b ≠ 3 ∧ hget hp 0 = some (.var t.cells) ∧ hget hp 1 = some (.var [.sl b 0 (L.length + 1)]) ∧ hget hp b = some (.row 4 (L ++ [(onePk t byB c).row])) ∧ hget hp 3 = some (.var [.fn 86 [.ptr 0 0 0, .ptr 1 0 0]])) ?_ ?_
  · refine mk87 rfl fun cx hP hm => ?_
    unfold pc87 Chunk.av Talk.cells
    cases byB
    · simp only [hm, go_sem, ↓reduceIte]
      refine c_send hP (t := t) (byB := false) (c := c) (tag := t.b.tag) hL 0 1 2 (by decide) rfl rfl rfl ?_
      simp only [hm, go_sem, ↓reduceIte]
      refine ⟨5, ?_⟩
      simp only [hm, go_sem, ↓reduceIte]
      rfl
    · simp only [hm, go_sem, ↓reduceIte]
      refine c_send hP (t := t) (byB := true) (c := c) (tag := t.a.tag) hL 0 1 2 (by decide) rfl rfl rfl ?_
      simp only [hm, go_sem, ↓reduceIte]
      refine ⟨5, ?_⟩
      simp only [hm, go_sem, ↓reduceIte]
      rfl
  · rintro r hp nx gs ⟨rfl, b, n0, n1, n3, h0, h1, h2, h3⟩
    refine ⟨.tup [], _, 5, [], ⟨rfl, rfl, rfl, rfl⟩, fun cx hc => ?_⟩
    refine le_ev [(4, b)] ?_
    simp only [hc, go_sem, ↓reduceIte, h0, h1, h2, h3]
    refine ⟨?_, fun h => n3 h.symm⟩
    rintro (h | h)
    · exact n1 h
    · exact n0 h
theorem c_say {cx : Cx} (hP : cx.P = Try.prog) {t : Talk} {byB : Bool} {c : Chunk} {L : List (List RV)} (hL : L.length ≤ 100000) {s : St} {K : AV → St → Prop} (b0 b1 b2 b3 : Nat) (hnd : [b0, b1, b2, b3].Nodup)
    (h0 : hget s.hp b0 = some (.var t.cells)) (h1 : hget s.hp b1 = some (.var [.sl b2 0 L.length])) (h2 : hget s.hp b2 = some (.row 4 L)) (h3 : hget s.hp b3 = some (.var [.fn 86 [.ptr b0 0 0, .ptr b1 0 0]]))
    (hK : K (.tup []) ⟨s.sl, (b0, .var t.cells) :: (b1, .var [.sl s.nx 0 (L.length + 1)]) :: (s.nx, .row 4 (L ++ [(onePk t byB c).row])) :: (b3, .var [.fn 86 [.ptr b0 0 0, .ptr b1 0 0]]) :: hdel (hdel (hdel (hdel s.hp b0) b1) b2) b3, s.nx + 1, s.gs⟩) : Call cx 87 [.bo byB, c.av, .ptr b3 0 0, .ptr b0 0 0] s K := by
  refine call_spec [b0, b1, b2, b3] (hP ▸ s_say t byB c L hL) hnd ?_ ?_ ?_ fun r hp' nx' gs' h => ?_
  · intro p hp
    simp only [List.mem_cons, List.mem_singleton, List.not_mem_nil, or_false] at hp
    rcases hp with rfl | rfl | rfl | rfl
    · exact ⟨by simp, by rw [show idf [b0, b1, b2, b3] s.nx 0 = b0 from rfl, h0]; rfl⟩
    · exact ⟨by simp, by rw [show idf [b0, b1, b2, b3] s.nx 1 = b1 from rfl, h1]; rfl⟩
    · exact ⟨by simp, by rw [show idf [b0, b1, b2, b3] s.nx 2 = b2 from rfl, h2]; rfl⟩
    · exact ⟨by simp, by rw [show idf [b0, b1, b2, b3] s.nx 3 = b3 from rfl, h3]; rfl⟩
  · intro j hj
    have : j = 0 ∨ j = 1 ∨ j = 2 ∨ j = 3 := by simp at hj; omega
    rcases this with rfl | rfl | rfl | rfl
    · exact ⟨_, List.mem_cons_self ..⟩
    · exact ⟨_, List.mem_cons_of_mem _ (List.mem_cons_self ..)⟩
    · exact ⟨_, List.mem_cons_of_mem _ (List.mem_cons_of_mem _ (List.mem_cons_self ..))⟩
    · exact ⟨_, List.mem_cons_of_mem _ (List.mem_cons_of_mem _ (List.mem_cons_of_mem _ (List.mem_cons_self ..)))⟩
  · rfl
  · obtain ⟨rfl, rfl, rfl, rfl⟩ := h
    exact hK
theorem s_partsOfP (t : Talk) (hv : talkB t = true) : Spec Try.prog 89 0 [] [t.ro] (Plain fun r => r = .r (.ro none ((talkLists t).map listRow))) := by
  have := s_partsOf t hv
  rw [← List.length_map (f := listRow)] at this
  exact this.dataP
def flatL (l : List (Bool × List Data)) : List (Bool × Data) := l.flatMap fun x => x.2.map fun d => (x.1, d)
theorem lists_all (z : Nat) (ta tb : Int) : ∀ (l : List Say) (f g : List Data), talkAll z ta tb l f g = flatL (lists z ta tb l f g)
  | [], f, g => rfl
  | s :: l, f, g => by
    simp only [talkAll, lists]
    split
    · rw [lists_all z ta tb l f]; rfl
    · rw [lists_all z ta tb l]; rfl
theorem talk_flat (t : Talk) : t.all = flatL (talkLists t) := lists_all _ _ _ _ _ _
theorem flatL_take {l : List (Bool × List Data)} {i : Nat} (h : i < l.length) : flatL (l.take (i + 1)) = flatL (l.take i) ++ l[i].2.map fun d => (l[i].1, d) := by
  rw [take_get h]
  unfold flatL
  rw [List.flatMap_append, List.flatMap_cons, List.flatMap_nil, List.append_nil]
theorem flatL_len {l : List (Bool × List Data)} (i : Nat) : (flatL (l.take i)).length ≤ (flatL l).length := by
  have : flatL l = flatL (l.take i) ++ flatL (l.drop i) := by
    unfold flatL
    rw [← List.flatMap_append, List.take_append_drop]
  rw [this, List.length_append]; omega
theorem flatL_mem {l : List (Bool × List Data)} {x : Bool × List Data} {d : Data} (h : x ∈ l) (hd : d ∈ x.2) : (x.1, d) ∈ flatL l := List.mem_flatMap.2 ⟨x, h, List.mem_map.2 ⟨d, hd, rfl⟩⟩
theorem saysPk_app (t : Talk) (a b : List (Bool × Data)) : saysPk t (a ++ b) = saysPk t a ++ saysPk t b := by unfold saysPk; rw [List.flatMap_append]
theorem s_implTalkPackets (t : Talk) (hl : t.says.length ≤ 1048576) (hx : ∀ s ∈ t.says, s.text.length ≤ 1048576) : Spec Try.prog 20 0 [] [t.ro] (Plain fun r => r = .r (.ro none ((talkPk t).map Packet.row))) := by
  by_cases hv : talkB t = true
  rotate_left
  · have e : talkPk t = [] := by unfold talkPk; rw [if_neg hv]
    rw [e]
    refine Spec.nilP ?_
    have hv' : talkB t = false := by simpa using hv
    refine mr20 rfl fun c hP hm => ?_
    unfold pc20 Talk.ro Talk.av
    refine run_seq (run_wpc _ _ _ _ _ ?_)
    simp only [hm, go_sem, ↓reduceIte]
    refine run_seq (run_wpc _ _ _ _ _ ?_)
    simp only [hm, go_sem, ↓reduceIte]
    refine call_pure (hP ▸ s_implTalkValid t (by omega)) rfl rfl ?_
    simp only [hv', hm, go_sem, ↓reduceIte]
  refine Spec.data1 (sz := 4) (Q := fun r hp _ _ => ∃ b, r = .sl b 0 ((talkPk t).map Packet.row).length ∧ hget hp b = some (.row 4 ((talkPk t).map Packet.row))) ?_ (fun r hp nx gs h => h)
  have hi := init_ok hv
  refine mr20 rfl fun c hP hm => ?_
  unfold pc20 Talk.ro Talk.av
  refine run_seq (run_wpc _ _ _ _ _ ?_)
  simp only [hm, go_sem, ↓reduceIte]
  refine run_seq (run_wpc _ _ _ _ _ ?_)
  simp only [hm, go_sem, ↓reduceIte]
  refine call_pure (hP ▸ s_implTalkValid t (by omega)) rfl rfl ?_
  simp only [hv, hm, go_sem, ↓reduceIte]
  refine run_seq (run_wpc _ _ _ _ _ ?_)
  simp only [hm, go_sem, ↓reduceIte]
  refine run_seq (run_wpc _ _ _ _ _ ?_)
  simp only [hm, go_sem, ↓reduceIte]
  refine run_seq (run_wpc _ _ _ _ _ ?_)
  simp only [hm, go_sem, ↓reduceIte]
  refine run_seq (run_wpc _ _ _ _ _ ?_)
  simp only [hm, go_sem, ↓reduceIte]
  refine call_data (hP ▸ s_implInitPut t.a false (hi false)) rfl rfl ?_
  simp only [Chunk.av, hm, go_sem, ↓reduceIte]
  refine run_seq (run_wpc _ _ _ _ _ ?_)
  simp only [hm, go_sem, ↓reduceIte]
  refine call_data (hP ▸ s_implInitPut t.b true (hi true)) rfl rfl ?_
  simp only [Chunk.av, hm, go_sem, ↓reduceIte]
  have hlist : (talkLists t).length ≤ 4 := by
    have : ∀ (l : List Say) (f g : List Data), (lists t.size.toNat t.a.tsn t.b.tsn l f g).length = l.length := by
      intro l
      induction l with
      | nil => intro f g; rfl
      | cons s l ih => intro f g; simp only [lists]; split <;> simp [ih]
    unfold talkLists
    rw [this]
    exact (talk_ok hv).2.1
  have hal := all_len hv
  refine run_seq (run_wpc _ _ _ _ _ ?_)
  simp only [hm, go_sem, ↓reduceIte]
  refine c_send hP (t := t) (byB := false) (c := initPut t.a false) (tag := 0) (L := []) (by simp) 0 2 1 (by decide) rfl rfl rfl ?_
  simp only [hm, go_sem, ↓reduceIte]
  refine run_seq (run_wpc _ _ _ _ _ ?_)
  simp only [hm, go_sem, ↓reduceIte]
  refine c_say hP (t := t) (byB := true) (c := initPut t.b true) (L := ((hello t).take 1).map Packet.row) (by simp [hello]) 0 2 6 3 (by decide) rfl rfl rfl rfl ?_
  simp only [hm, go_sem, ↓reduceIte]
  refine run_seq (run_wpc _ _ _ _ _ ?_)
  simp only [hm, go_sem, ↓reduceIte]
  refine c_say hP (t := t) (byB := false) (c := ⟨10, 0, []⟩) (L := ((hello t).take 2).map Packet.row) (by simp [hello]) 0 2 7 3 (by decide) rfl rfl rfl rfl ?_
  simp only [hm, go_sem, ↓reduceIte]
  refine run_seq (run_wpc _ _ _ _ _ ?_)
  simp only [hm, go_sem, ↓reduceIte]
  refine c_say hP (t := t) (byB := true) (c := ⟨11, 0, []⟩) (L := ((hello t).take 3).map Packet.row) (by simp [hello]) 0 2 8 3 (by decide) rfl rfl rfl rfl ?_
  simp only [hm, go_sem, ↓reduceIte]
  refine run_seq (run_wpc _ _ _ _ _ ?_)
  simp only [hm, go_sem, ↓reduceIte]
  refine call_dataP (hP ▸ s_partsOfP t hv) rfl rfl ?_
  simp only [hm, go_sem, ↓reduceIte]
  intro _
  have e0 : List.map Packet.row (List.take 3 (hello t)) ++ [(onePk t true ⟨11, 0, []⟩).row] = (hello t).map Packet.row := rfl
  have e1 : (List.take 3 (hello t)).length + 1 = (hello t).length := rfl
  have hh : (hello t).length = 4 := rfl
  rw [e0, e1]
  have hflat := talk_flat t
  have hfl : (flatL (talkLists t)).length ≤ 24 := by rw [← hflat]; exact hal
  have hok : ∀ x ∈ talkLists t, ∀ d ∈ x.2, dataB d = true := fun x hx d hd => talkAll_data hv (x := (x.1, d)) (by rw [hflat]; exact flatL_mem hx hd)
  refine run_exit 0 (fun t0 => t0 = ⟨[(3, .ptr 1 0 0), (5, .fn 87 [.ptr 3 0 0, .ptr 0 0 0])], [(0, .var t.cells), (1, .var [.sl 2 0 (hello t ++ saysPk t t.all).length]), (2, .row 4 ((hello t ++ saysPk t t.all).map Packet.row)), (3, .var [.fn 86 [.ptr 0 0 0, .ptr 1 0 0]])], 4, []⟩) ?_ ?_
  · refine lp_wpc (α := Nat) (fun i => ⟨[(3, .ptr 1 0 0), (5, .fn 87 [.ptr 3 0 0, .ptr 0 0 0]), (49, .r (.ro none ((talkLists t).map listRow))), (50, .i (talkLists t).length), (51, .i i)], [(0, .var t.cells), (1, .var [.sl 2 0 (hello t ++ saysPk t (flatL ((talkLists t).take i))).length]), (2, .row 4 ((hello t ++ saysPk t (flatL ((talkLists t).take i))).map Packet.row)), (3, .var [.fn 86 [.ptr 0 0 0, .ptr 1 0 0]])], 4, []⟩)
      (fun i => i ≤ (talkLists t).length) (fun i => (talkLists t).length - i) 0 (Nat.zero_le _) (by rw [List.take_zero]; simp only [flatL, List.flatMap_nil, saysPk, List.append_nil]; (refine le_ev [(0, 0), (1, 2), (2, 9), (3, 3)] ?_; simp only [hm, go_sem, ↓reduceIte]; first | done | rfl | exact ⟨rfl, rfl⟩)) ?_
    intro i hi
    unfold pc20l1
    rcases Nat.lt_or_ge i (talkLists t).length with hil | hil
    · have hw : IntKind.i64.wrap ((i : Int) + 1) = ((i + 1 : Nat) : Int) := by rw [wrap64 (by omega) (by omega)]; omega
      have hg := getD_map (f := listRow) hil
      have hft := flatL_take hil
      have hfle := flatL_len (l := talkLists t) (i + 1)
      have hxok := hok _ (List.getElem_mem hil)
      generalize (talkLists t)[i] = x at hg hft hxok
      rw [hft] at hfle
      simp only [Int.toNat_natCast, hg, listRow, hm, go_sem, ↓reduceIte]
      repeat' first | refine And.intro ?_ ?_ | intro _
      all_goals first
        | omega
        | rfl
        | skip
      refine lp_wpc (α := Nat) (fun k => ⟨[(3, .ptr 1 0 0), (5, .fn 87 [.ptr 3 0 0, .ptr 0 0 0]), (49, .r (.ro none ((talkLists t).map listRow))), (50, .i (talkLists t).length), (51, .i i), (55, .r (.ro none (x.2.map (tpRow x.1)))), (56, .i x.2.length), (57, .i k)], [(0, .var t.cells), (1, .var [.sl 2 0 (hello t ++ saysPk t (flatL ((talkLists t).take i) ++ (x.2.take k).map fun d => (x.1, d))).length]), (2, .row 4 ((hello t ++ saysPk t (flatL ((talkLists t).take i) ++ (x.2.take k).map fun d => (x.1, d))).map Packet.row)), (3, .var [.fn 86 [.ptr 0 0 0, .ptr 1 0 0]])], 4, []⟩)
        (fun k => k ≤ x.2.length) (fun k => x.2.length - k) 0 (Nat.zero_le _) (by rw [List.take_zero, List.map_nil, List.append_nil]; (refine le_ev [] ?_; simp only [hm, go_sem, ↓reduceIte]; first | done | rfl | exact ⟨rfl, rfl⟩)) ?_
      intro k hk
      unfold pc20l0
      rcases Nat.lt_or_ge k x.2.length with hkl | hkl
      · have hwk : IntKind.i64.wrap ((k : Int) + 1) = ((k + 1 : Nat) : Int) := by rw [wrap64 (by omega) (by omega)]; omega
        have hgk := getD_map (f := tpRow x.1) hkl
        have htk := take_get hkl
        have hd := hxok _ (List.getElem_mem hkl)
        generalize x.2[k] = d at hgk htk hd
        have htsn := (data_ok hd).1
        have hlen2 : (flatL ((talkLists t).take i) ++ (x.2.take k).map fun d => (x.1, d)).length ≤ 24 := by
          rw [List.length_append, List.length_map] at hfle ⊢
          rw [List.length_take]; omega
        have hso : (saysPk t (flatL ((talkLists t).take i) ++ (x.2.take k).map fun d => (x.1, d))).length ≤ 48 := by rw [saysPk_len]; omega
        have hnext : hello t ++ saysPk t (flatL ((talkLists t).take i) ++ (x.2.take (k + 1)).map fun d => (x.1, d)) = hello t ++ saysPk t (flatL ((talkLists t).take i) ++ (x.2.take k).map fun d => (x.1, d)) ++ [onePk t x.1 (dataPut d)] ++ [onePk t (!x.1) (sackPut ⟨d.tsn, []⟩)] := by
          rw [htk, List.map_append, ← List.append_assoc, saysPk_app t _ (List.map _ [d])]
          simp [saysPk]
        have hpl : (hello t ++ saysPk t (flatL ((talkLists t).take i) ++ (x.2.take k).map fun d => (x.1, d))).length ≤ 60 := by rw [List.length_append]; omega
        generalize hello t ++ saysPk t (flatL ((talkLists t).take i) ++ (x.2.take k).map fun d => (x.1, d)) = out at hnext hpl
        simp only [hwk, Int.toNat_natCast, hgk, tpRow, Data.row, hm, go_sem, ↓reduceIte]
        repeat' first | refine And.intro ?_ ?_ | intro _
        all_goals first
          | omega
          | rfl
          | skip
        refine call_data (hP ▸ s_implDataPut d hd) rfl rfl ?_
        simp only [Chunk.av, hm, go_sem, ↓reduceIte]
        refine call_data (hP ▸ s_implSackPut0 d.tsn htsn) rfl rfl ?_
        simp only [Chunk.av, hm, go_sem, ↓reduceIte]
        refine c_say hP (t := t) (byB := x.1) (c := dataPut d) (L := out.map Packet.row) (by rw [List.length_map]; omega) 0 1 2 3 (by decide) rfl (by rw [List.length_map]; rfl) rfl rfl ?_
        simp only [hm, go_sem, ↓reduceIte]
        refine c_say hP (t := t) (byB := !x.1) (c := sackPut ⟨d.tsn, []⟩) (L := (out ++ [onePk t x.1 (dataPut d)]).map Packet.row) (by rw [List.length_map, List.length_append]; simp; omega) 0 1 7 3 (by decide) rfl (by rw [List.length_map, List.length_append]; rfl) (by rw [List.map_append]; rfl) rfl ?_
        simp only [List.length_append, List.length_map, List.length_cons, List.length_nil, hm, go_sem, ↓reduceIte]
        refine ⟨k + 1, hkl, by omega, ?_⟩
        have hnl : (hello t).length + (saysPk t (flatL ((talkLists t).take i) ++ (x.2.take (k + 1)).map fun d => (x.1, d))).length = out.length + 1 + 1 := by rw [← List.length_append, hnext, List.length_append, List.length_append]; rfl
        try rw [hnl]
        rw [hnext, hwk]
        simp only [List.map_append, List.length_append, List.length_cons, List.length_nil, List.append_assoc, List.map_cons, List.map_nil]
        (refine le_ev [(0, 0), (1, 1), (2, 8), (3, 3)] ?_; simp only [hm, go_sem, ↓reduceIte]; first | done | rfl | exact ⟨rfl, rfl⟩)
      · have : k = x.2.length := by omega
        subst this
        rw [List.take_length, ← hft]
        simp only [hw, hm, go_sem, ↓reduceIte]
        repeat' first | refine And.intro ?_ ?_ | intro _
        all_goals first
          | omega
          | (refine ⟨i + 1, hil, by omega, ?_⟩; (refine le_ev [] ?_; simp only [hm, go_sem, ↓reduceIte]; first | done | rfl | exact ⟨rfl, rfl⟩))
    · have : i = (talkLists t).length := by omega
      subst this
      rw [List.take_length, ← hflat]
      simp only [hm, go_sem, ↓reduceIte]
      repeat' first | refine And.intro ?_ ?_ | intro _
      all_goals first
        | omega
        | (refine ⟨_, rfl, ?_⟩; (refine le_ev [] ?_; simp only [hm, go_sem, ↓reduceIte]; first | done | rfl | exact ⟨rfl, rfl⟩))
  rintro t0 rfl
  rw [if_pos rfl]
  have hpk : talkPk t = hello t ++ saysPk t t.all ++ bye t := by unfold talkPk; rw [if_pos hv]
  have hpl : (hello t ++ saysPk t t.all).length ≤ 60 := by rw [List.length_append, saysPk_len]; omega
  rw [hpk]
  generalize hello t ++ saysPk t t.all = out at hpl
  refine run_seq (run_wpc _ _ _ _ _ ?_)
  simp only [hm, go_sem, ↓reduceIte]
  refine c_say hP (t := t) (byB := false) (c := ⟨7, 0, []⟩) (L := out.map Packet.row) (by rw [List.length_map]; omega) 0 1 2 3 (by decide) rfl (by rw [List.length_map]; rfl) rfl rfl ?_
  simp only [hm, go_sem, ↓reduceIte]
  refine run_seq (run_wpc _ _ _ _ _ ?_)
  simp only [hm, go_sem, ↓reduceIte]
  refine c_say hP (t := t) (byB := true) (c := ⟨8, 0, []⟩) (L := (out ++ (bye t).take 1).map Packet.row) (by rw [List.length_map, List.length_append]; simp [bye]; omega) 0 1 4 3 (by decide) rfl (by rw [List.length_map, List.length_append]; rfl) (by rw [List.map_append]; rfl) rfl ?_
  simp only [hm, go_sem, ↓reduceIte]
  refine run_seq (run_wpc _ _ _ _ _ ?_)
  simp only [hm, go_sem, ↓reduceIte]
  refine c_say hP (t := t) (byB := false) (c := ⟨14, 0, []⟩) (L := (out ++ (bye t).take 2).map Packet.row) (by rw [List.length_map, List.length_append]; simp [bye]; omega) 0 1 5 3 (by decide) rfl (by rw [List.length_map, List.length_append]; rfl) (by simp only [go_sem, ↓reduceIte, List.map_append, List.append_assoc]; rfl) rfl ?_
  simp only [hm, go_sem, ↓reduceIte]
  refine run_wpc _ _ _ _ _ ?_
  simp only [hm, go_sem, ↓reduceIte]
  refine ⟨6, rfl, ?_⟩
  simp only [List.map_append, List.append_assoc, hm, go_sem, ↓reduceIte]
  rfl
end Go.Cap

/- Contracts: draws of talks as data; equality of packets; packets are valid, twice. -/
namespace Go.Cap
open Go Go.Proofs
set_option maxRecDepth 100000
set_option linter.unusedSimpArgs false
set_option linter.unusedVariables false
attribute [local irreducible] Call Run Spec Le

theorem le_talk {c : Cx} (hc : c.m = 0) (t : Talk) : Le c ⟨[(0, t.av (.sl 0 0 t.says.length))], [(0, .row 4 (t.says.map Say.row))], 1, []⟩ ⟨[(0, t.ro)], [], 0, []⟩ := by
  refine Le.trans (le_frz 0 rfl (by simp only [List.length_map, Talk.av, go_sem, ↓reduceIte]) (by simp only [go_sem, ↓reduceIte])) ?_
  simp only [take_map_len, List.drop_zero, Talk.av, go_sem, ↓reduceIte]
  exact le_ev [] (by simp only [hc, Talk.ro, Talk.av, go_sem, ↓reduceIte])
def TalkIs (t : Talk) : Prop := t.says.length ≤ 6 ∧ ∀ s ∈ t.says, s.text.length ≤ 1000
theorem s_DrawTalkPackets (code : List UInt8) : Spec Try.prog 19 0 [] [.r (.ro none (code.map byteRow))] (Plain fun r => ∃ t : Talk, r = t.ro ∧ TalkIs t) := by
  refine Spec.le (Q := fun r hp _ _ => ∃ t : Talk, ∃ b, r = t.av (.sl b 0 t.says.length) ∧ hget hp b = some (.row 4 (t.says.map Say.row)) ∧ TalkIs t) ?_ ?_
  · refine mk19 rfl fun c hP hm => ?_
    unfold pc19
    simp only [hm, go_sem, ↓reduceIte]
    refine call_newV (hP ▸ s_l6Open code) rfl rfl ?_
    simp only [hm, go_sem, ↓reduceIte]
    refine c_drawT (hP ▸ s_l92Odd _ 0 (by omega) (by simp; omega)) rfl fun t p1 h1 h2 h3 h4 => ?_
    simp only [Talk.av, hm, go_sem, ↓reduceIte]
    exact ⟨t, _, rfl, rfl, h3, h4⟩
  · rintro r hp nx gs ⟨t, b, rfl, hb, ht⟩
    refine ⟨t.ro, [], 0, [], ⟨⟨t, rfl, ht⟩, rfl, rfl, rfl⟩, fun c hc => ?_⟩
    refine Le.trans (t := ⟨[(0, t.av (.sl 0 0 t.says.length))], [(0, .row 4 (t.says.map Say.row))], 1, []⟩) (le_ev [(0, b)] ?_) (le_talk hc t)
    simp only [Talk.av, hc, go_sem, ↓reduceIte, hb]
theorem s_sameChunks (l : List Chunk) : Spec Try.prog 170 0 [] [.r (.ro none (l.map Chunk.row)), .r (.ro none (l.map Chunk.row))] (fun r _ _ _ => r = .bo true) := by
  refine mk170 rfl fun c hP hm => ?_
  unfold pc170
  simp only [hm, go_sem, ↓reduceIte]
  intro hlen _
  refine lp_wpc (α := Nat) (fun i => ⟨[(0, .r (.ro none (l.map Chunk.row))), (1, .r (.ro none (l.map Chunk.row))), (5, .i i)], [], 0, []⟩) (fun i => i ≤ l.length) (fun i => l.length - i) 0 (Nat.zero_le _) (by (refine le_ev [] ?_; simp only [hm, go_sem, ↓reduceIte]; first | done | rfl | exact ⟨rfl, rfl⟩)) ?_
  intro i hi
  unfold pc170l0
  rcases Nat.lt_or_ge i l.length with hil | hil
  · have hw : IntKind.i64.wrap ((i : Int) + 1) = ((i + 1 : Nat) : Int) := by rw [wrap64 (by omega) (by omega)]; omega
    have hg := getD_map (f := Chunk.row) hil
    generalize l[i] = x at hg
    simp only [hw, Int.toNat_natCast, hg, Chunk.row, hm, go_sem, ↓reduceIte]
    repeat' first | refine And.intro ?_ ?_ | intro _
    all_goals first
      | omega
      | rfl
      | (refine ⟨i + 1, hil, by omega, ?_⟩; (refine le_ev [] ?_; simp only [hm, go_sem, ↓reduceIte]; first | done | rfl | exact ⟨rfl, rfl⟩))
  · have : i = l.length := by omega
    subst this
    simp only [hm, go_sem, ↓reduceIte]
    repeat' first | refine And.intro ?_ ?_ | intro _
    all_goals first
      | omega
      | rfl
theorem s_samePacket (p : Packet) : Spec Try.prog 100 0 [] [p.ro, p.ro] (fun r _ _ _ => r = .bo true) := by
  refine mk100 rfl fun c hP hm => ?_
  unfold pc100 Packet.ro
  simp only [hm, go_sem, ↓reduceIte]
  refine call_pure (hP ▸ s_sameChunks p.chunks) rfl rfl ?_
  simp only [hm, go_sem, ↓reduceIte]
theorem s_samePackets (l : List Packet) : Spec Try.prog 22 0 [] [.r (.ro none (l.map Packet.row)), .r (.ro none (l.map Packet.row))] (fun r _ _ _ => r = .bo true) := by
  refine mk22 rfl fun c hP hm => ?_
  unfold pc22
  simp only [hm, go_sem, ↓reduceIte]
  intro hlen _
  refine lp_wpc (α := Nat) (fun i => ⟨[(0, .r (.ro none (l.map Packet.row))), (1, .r (.ro none (l.map Packet.row))), (5, .i i)], [], 0, []⟩) (fun i => i ≤ l.length) (fun i => l.length - i) 0 (Nat.zero_le _) (by (refine le_ev [] ?_; simp only [hm, go_sem, ↓reduceIte]; first | done | rfl | exact ⟨rfl, rfl⟩)) ?_
  intro i hi
  unfold pc22l0
  rcases Nat.lt_or_ge i l.length with hil | hil
  · have hw : IntKind.i64.wrap ((i : Int) + 1) = ((i + 1 : Nat) : Int) := by rw [wrap64 (by omega) (by omega)]; omega
    have hg := getD_map (f := Packet.row) hil
    generalize l[i] = x at hg
    simp only [hw, Int.toNat_natCast, hg, Packet.row, hm, go_sem, ↓reduceIte]
    repeat' first | refine And.intro ?_ ?_ | intro _ | (refine call_pure (hP ▸ s_samePacket x) rfl rfl ?_; simp only [hw, Int.toNat_natCast, hg, Packet.row, hm, go_sem, ↓reduceIte])
    all_goals first
      | omega
      | rfl
      | (refine ⟨i + 1, hil, by omega, ?_⟩; (refine le_ev [] ?_; simp only [hm, go_sem, ↓reduceIte]; first | done | rfl | exact ⟨rfl, rfl⟩))
  · have : i = l.length := by omega
    subst this
    simp only [hm, go_sem, ↓reduceIte]
    repeat' first | refine And.intro ?_ ?_ | intro _
    all_goals first
      | omega
      | rfl
theorem s_implChunkValid (c : Chunk) : Spec Try.prog 102 0 [] [c.av] (fun r _ _ _ => r = .bo (chunkB c)) := by
  refine mk102 rfl fun cx hP hm => ?_
  unfold pc102 Chunk.av
  simp only [hm, go_sem, ↓reduceIte]
  repeat' first | refine And.intro ?_ ?_ | intro _
  all_goals (apply bo_inj; rw [Bool.eq_iff_iff]; simp [chunkB, inB] <;> omega)
theorem s_implPacketValid (p : Packet) : Spec Try.prog 25 0 [] [p.ro] (fun r _ _ _ => r = .bo (packB p)) := by
  refine mr25 rfl fun c hP hm => ?_
  unfold pc25 Packet.ro
  refine run_seq (run_wpc _ _ _ _ _ ?_)
  simp only [hm, go_sem, ↓reduceIte]
  refine run_seq (run_wpc _ _ _ _ _ ?_)
  simp only [hm, go_sem, ↓reduceIte]
  repeat' first | refine And.intro ?_ ?_ | intro _
  all_goals first
    | (apply bo_inj; symm; rw [Bool.eq_false_iff]; intro hh; simp only [packB, inB, Bool.and_eq_true, decide_eq_true_eq] at hh; omega)
    | skip
  refine run_wpc _ _ _ _ _ ?_
  simp only [hm, go_sem, ↓reduceIte]
  intro _
  refine lp_wpc (α := Nat) (fun i => ⟨[(53, .r (.ro none (p.chunks.map Chunk.row))), (54, .i p.chunks.length), (55, .i i)], [], 0, []⟩)
    (fun i => i ≤ p.chunks.length ∧ ∀ c ∈ p.chunks.take i, chunkB c = true) (fun i => p.chunks.length - i) 0 ⟨Nat.zero_le _, fun c hc => by simp at hc⟩ (by (refine le_ev [] ?_; simp only [hm, go_sem, ↓reduceIte]; first | done | rfl | exact ⟨rfl, rfl⟩)) ?_
  rintro i ⟨hi, hI⟩
  unfold pc25l0
  rcases Nat.lt_or_ge i p.chunks.length with hil | hil
  · have hw : IntKind.i64.wrap ((i : Int) + 1) = ((i + 1 : Nat) : Int) := by rw [wrap64 (by omega) (by omega)]; omega
    have hg := getD_map (f := Chunk.row) hil
    have htk := take_get hil
    have hmem := List.getElem_mem hil
    generalize p.chunks[i] = x at hg htk hmem
    have hok : chunkB x = false → AV.r (RV.b false) = AV.bo (packB p) := fun h => by
      apply bo_inj; symm; rw [Bool.eq_false_iff]; intro hh
      simp only [packB, Bool.and_eq_true, List.all_eq_true] at hh
      rw [hh.2 x hmem] at h; cases h
    simp only [hw, Int.toNat_natCast, hg, Chunk.row, hm, go_sem, ↓reduceIte]
    repeat' first | refine And.intro ?_ ?_ | intro _ | (refine call_pure (hP ▸ s_implChunkValid x) rfl rfl ?_; simp only [hw, Int.toNat_natCast, hg, Chunk.row, hm, go_sem, ↓reduceIte])
    all_goals first
      | omega
      | rfl
      | (rename_i hc; exact hok hc)
      | (rename_i hc
         refine ⟨i + 1, ⟨hil, fun y hy => ?_⟩, by omega, ?_⟩
         · rw [htk] at hy
           rcases List.mem_append.1 hy with hy | hy
           · exact hI y hy
           · simp only [List.mem_singleton] at hy; subst hy; exact hc
         · (refine le_ev [] ?_; simp only [hm, go_sem, ↓reduceIte]; first | done | rfl | exact ⟨rfl, rfl⟩))
  · have : i = p.chunks.length := by omega
    subst this
    rw [List.take_length] at hI
    have hall : p.chunks.all chunkB = true := List.all_eq_true.2 hI
    simp only [hm, go_sem, ↓reduceIte]
    repeat' first | refine And.intro ?_ ?_ | intro _
    all_goals first
      | omega
      | (apply bo_inj; symm; simp only [packB, inB, hall, Bool.and_eq_true, decide_eq_true_eq, and_true]; omega)
end Go.Cap
