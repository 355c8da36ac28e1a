import Derived.Test.YtfanhpebfnbobaaEngC
import Derived.Test.YtfanhpebfnbobaaLawA
import Derived.Test.YtfanhpebfnbobaaPc
/- Contracts: the packets of a talk (the program's). -/
namespace Go.Cap
open Go Go.Proofs
set_option maxRecDepth 100000
set_option linter.unusedSimpArgs false
set_option linter.unusedVariables false
attribute [local irreducible] Call Run Spec Le

abbrev Talk.cells (t : Talk) : List AV := [.i t.fr, .i t.to, .i t.a.tag, .i t.a.window, .i t.a.streams, .i t.a.tsn, .i t.b.tag, .i t.b.window, .i t.b.streams, .i t.b.tsn, .i t.size, .r (.ro none (t.says.map Say.row))]
/-- A packet as it is sent. -/
def sendPk (t : Talk) (byB : Bool) (c : Chunk) (tag : Int) : Packet := if byB then ⟨t.to, t.fr, tag, [c]⟩ else ⟨t.fr, t.to, tag, [c]⟩
theorem s_send (t : Talk) (byB : Bool) (c : Chunk) (tag : Int) (L : List (List RV)) (hL : L.length ≤ 100000) :
    Spec Try.prog 84 3 [(0, .var t.cells), (1, .var [.sl 2 0 L.length]), (2, .row 4 L)] [.bo byB, c.av, .i tag, .ptr 0 0 0, .ptr 1 0 0]
      (fun r hp nx gs => r = .tup [] ∧ hp = [(0, .var t.cells), (1, .var [.sl 3 0 (L.length + 1)]), (3, .row 4 (L ++ [(sendPk t byB c tag).row]))] ∧ nx = 4 ∧ gs = []) := by
  refine Spec.le (Q := fun r hp nx gs => r = .tup [] ∧ ∃ b, b ≠ 0 ∧ b ≠ 1 ∧ hget hp 0 = some (.var t.cells) ∧ hget hp 1 = some (.var [.sl b 0 (L.length + 1)]) ∧ hget hp b = some (.row 4 (L ++ [(sendPk t byB c tag).row]))) ?_ ?_
  · refine mr84 rfl fun cx hP hm => ?_
    unfold pc84 Chunk.av Talk.cells
    refine run_seq (run_wpc _ _ _ _ _ ?_)
    simp only [hm, go_sem, ↓reduceIte]
    refine run_seq (run_wpc _ _ _ _ _ ?_)
    simp only [hm, go_sem, ↓reduceIte]
    refine run_frz 4 rfl (by first | (simp only [hm, List.length_map, go_sem, ↓reduceIte]; done) | (simp only [hm, List.length_map, go_sem, ↓reduceIte]; omega)) (by first | (simp only [hm, List.length_map, go_sem, ↓reduceIte]; done) | (simp only [hm, List.length_map, go_sem, ↓reduceIte]; omega)) ?_; simp only [hm, take_map_len, List.drop_zero, go_sem, ↓reduceIte]
    refine run_wpc _ _ _ _ _ ?_
    have hrw : List.take L.length L = L := List.take_length
    unfold sendPk
    cases byB
    · simp only [hrw, Bool.false_eq_true, if_false, Packet.row, List.map_cons, List.map_nil, Chunk.row, hm, go_sem, ↓reduceIte]
      refine ⟨by omega, _, ?_, ?_, rfl, rfl⟩
      all_goals decide
    · simp only [hrw, if_true, Packet.row, List.map_cons, List.map_nil, Chunk.row, hm, go_sem, ↓reduceIte]
      refine ⟨by omega, _, ?_, ?_, rfl, rfl⟩
      all_goals decide
  · rintro r hp nx gs ⟨rfl, b, n0, n1, h0, h1, h2⟩
    refine ⟨.tup [], _, 4, [], ⟨rfl, rfl, rfl, rfl⟩, fun cx hc => ?_⟩
    refine le_ev [(3, b)] ?_
    simp only [hc, go_sem, ↓reduceIte, h0, h1, h2]
    rintro (h | h)
    · exact n1 h
    · exact n0 h
theorem c_send {cx : Cx} (hP : cx.P = Try.prog) {t : Talk} {byB : Bool} {c : Chunk} {tag : Int} {L : List (List RV)} (hL : L.length ≤ 100000) {s : St} {K : AV → St → Prop} (b0 b1 b2 : Nat) (hnd : [b0, b1, b2].Nodup)
    (h0 : hget s.hp b0 = some (.var t.cells)) (h1 : hget s.hp b1 = some (.var [.sl b2 0 L.length])) (h2 : hget s.hp b2 = some (.row 4 L))
    (hK : K (.tup []) ⟨s.sl, (b0, .var t.cells) :: (b1, .var [.sl s.nx 0 (L.length + 1)]) :: (s.nx, .row 4 (L ++ [(sendPk t byB c tag).row])) :: hdel (hdel (hdel s.hp b0) b1) b2, s.nx + 1, s.gs⟩) : Call cx 84 [.bo byB, c.av, .i tag, .ptr b0 0 0, .ptr b1 0 0] s K := by
  refine call_spec [b0, b1, b2] (hP ▸ s_send t byB c tag L hL) hnd ?_ ?_ ?_ fun r hp' nx' gs' h => ?_
  · intro p hp
    simp only [List.mem_cons, List.mem_singleton, List.not_mem_nil, or_false] at hp
    rcases hp with rfl | rfl | rfl
    · exact ⟨by simp, by rw [show idf [b0, b1, b2] s.nx 0 = b0 from rfl, h0]; rfl⟩
    · exact ⟨by simp, by rw [show idf [b0, b1, b2] s.nx 1 = b1 from rfl, h1]; rfl⟩
    · exact ⟨by simp, by rw [show idf [b0, b1, b2] s.nx 2 = b2 from rfl, h2]; rfl⟩
  · intro j hj
    have : j = 0 ∨ j = 1 ∨ j = 2 := by simp at hj; omega
    rcases this with rfl | rfl | rfl
    · exact ⟨_, List.mem_cons_self ..⟩
    · exact ⟨_, List.mem_cons_of_mem _ (List.mem_cons_self ..)⟩
    · exact ⟨_, List.mem_cons_of_mem _ (List.mem_cons_of_mem _ (List.mem_cons_self ..))⟩
  · rfl
  · obtain ⟨rfl, rfl, rfl, rfl⟩ := h
    exact hK
theorem s_say (t : Talk) (byB : Bool) (c : Chunk) (L : List (List RV)) (hL : L.length ≤ 100000) :
    Spec Try.prog 85 4 [(0, .var t.cells), (1, .var [.sl 2 0 L.length]), (2, .row 4 L), (3, .var [.fn 84 [.ptr 0 0 0, .ptr 1 0 0]])] [.bo byB, c.av, .ptr 3 0 0, .ptr 0 0 0]
      (fun r hp nx gs => r = .tup [] ∧ hp = [(0, .var t.cells), (1, .var [.sl 4 0 (L.length + 1)]), (4, .row 4 (L ++ [(onePk t byB c).row])), (3, .var [.fn 84 [.ptr 0 0 0, .ptr 1 0 0]])] ∧ nx = 5 ∧ gs = []) := by
  refine Spec.le (Q := fun r hp nx gs => r = .tup [] ∧ ∃ b, b ≠ 0 ∧ b ≠ 1 ∧ b ≠ 3 ∧ hget hp 0 = some (.var t.cells) ∧ hget hp 1 = some (.var [.sl b 0 (L.length + 1)]) ∧ hget hp b = some (.row 4 (L ++ [(onePk t byB c).row])) ∧ hget hp 3 = some (.var [.fn 84 [.ptr 0 0 0, .ptr 1 0 0]])) ?_ ?_
  · refine mk85 rfl fun cx hP hm => ?_
    unfold pc85 Chunk.av Talk.cells
    cases byB
    · simp only [hm, go_sem, ↓reduceIte]
      refine c_send hP (t := t) (byB := false) (c := c) (tag := t.b.tag) hL 0 1 2 (by decide) rfl rfl rfl ?_
      simp only [hm, go_sem, ↓reduceIte]
      refine ⟨5, ?_⟩
      simp only [hm, go_sem, ↓reduceIte]
      rfl
    · simp only [hm, go_sem, ↓reduceIte]
      refine c_send hP (t := t) (byB := true) (c := c) (tag := t.a.tag) hL 0 1 2 (by decide) rfl rfl rfl ?_
      simp only [hm, go_sem, ↓reduceIte]
      refine ⟨5, ?_⟩
      simp only [hm, go_sem, ↓reduceIte]
      rfl
  · rintro r hp nx gs ⟨rfl, b, n0, n1, n3, h0, h1, h2, h3⟩
    refine ⟨.tup [], _, 5, [], ⟨rfl, rfl, rfl, rfl⟩, fun cx hc => ?_⟩
    refine le_ev [(4, b)] ?_
    simp only [hc, go_sem, ↓reduceIte, h0, h1, h2, h3]
    refine ⟨?_, fun h => n3 h.symm⟩
    rintro (h | h)
    · exact n1 h
    · exact n0 h
theorem c_say {cx : Cx} (hP : cx.P = Try.prog) {t : Talk} {byB : Bool} {c : Chunk} {L : List (List RV)} (hL : L.length ≤ 100000) {s : St} {K : AV → St → Prop} (b0 b1 b2 b3 : Nat) (hnd : [b0, b1, b2, b3].Nodup)
    (h0 : hget s.hp b0 = some (.var t.cells)) (h1 : hget s.hp b1 = some (.var [.sl b2 0 L.length])) (h2 : hget s.hp b2 = some (.row 4 L)) (h3 : hget s.hp b3 = some (.var [.fn 84 [.ptr b0 0 0, .ptr b1 0 0]]))
    (hK : K (.tup []) ⟨s.sl, (b0, .var t.cells) :: (b1, .var [.sl s.nx 0 (L.length + 1)]) :: (s.nx, .row 4 (L ++ [(onePk t byB c).row])) :: (b3, .var [.fn 84 [.ptr b0 0 0, .ptr b1 0 0]]) :: hdel (hdel (hdel (hdel s.hp b0) b1) b2) b3, s.nx + 1, s.gs⟩) : Call cx 85 [.bo byB, c.av, .ptr b3 0 0, .ptr b0 0 0] s K := by
  refine call_spec [b0, b1, b2, b3] (hP ▸ s_say t byB c L hL) hnd ?_ ?_ ?_ fun r hp' nx' gs' h => ?_
  · intro p hp
    simp only [List.mem_cons, List.mem_singleton, List.not_mem_nil, or_false] at hp
    rcases hp with rfl | rfl | rfl | rfl
    · exact ⟨by simp, by rw [show idf [b0, b1, b2, b3] s.nx 0 = b0 from rfl, h0]; rfl⟩
    · exact ⟨by simp, by rw [show idf [b0, b1, b2, b3] s.nx 1 = b1 from rfl, h1]; rfl⟩
    · exact ⟨by simp, by rw [show idf [b0, b1, b2, b3] s.nx 2 = b2 from rfl, h2]; rfl⟩
    · exact ⟨by simp, by rw [show idf [b0, b1, b2, b3] s.nx 3 = b3 from rfl, h3]; rfl⟩
  · intro j hj
    have : j = 0 ∨ j = 1 ∨ j = 2 ∨ j = 3 := by simp at hj; omega
    rcases this with rfl | rfl | rfl | rfl
    · exact ⟨_, List.mem_cons_self ..⟩
    · exact ⟨_, List.mem_cons_of_mem _ (List.mem_cons_self ..)⟩
    · exact ⟨_, List.mem_cons_of_mem _ (List.mem_cons_of_mem _ (List.mem_cons_self ..))⟩
    · exact ⟨_, List.mem_cons_of_mem _ (List.mem_cons_of_mem _ (List.mem_cons_of_mem _ (List.mem_cons_self ..)))⟩
  · rfl
  · obtain ⟨rfl, rfl, rfl, rfl⟩ := h
    exact hK
theorem s_partsOfP (t : Talk) (hv : talkB t = true) : Spec Try.prog 87 0 [] [t.ro] (Plain fun r => r = .r (.ro none ((talkLists t).map listRow))) := by
  have := s_partsOf t hv
  rw [← List.length_map (f := listRow)] at this
  exact this.dataP
def flatL (l : List (Bool × List Data)) : List (Bool × Data) := l.flatMap fun x => x.2.map fun d => (x.1, d)
theorem lists_all (z : Nat) (ta tb : Int) : ∀ (l : List Say) (f g : List Data), talkAll z ta tb l f g = flatL (lists z ta tb l f g)
  | [], f, g => rfl
  | s :: l, f, g => by
    simp only [talkAll, lists]
    split
    · rw [lists_all z ta tb l f]; rfl
    · rw [lists_all z ta tb l]; rfl
theorem talk_flat (t : Talk) : t.all = flatL (talkLists t) := lists_all _ _ _ _ _ _
theorem flatL_take {l : List (Bool × List Data)} {i : Nat} (h : i < l.length) : flatL (l.take (i + 1)) = flatL (l.take i) ++ l[i].2.map fun d => (l[i].1, d) := by
  rw [take_get h]
  unfold flatL
  rw [List.flatMap_append, List.flatMap_cons, List.flatMap_nil, List.append_nil]
theorem flatL_len {l : List (Bool × List Data)} (i : Nat) : (flatL (l.take i)).length ≤ (flatL l).length := by
  have : flatL l = flatL (l.take i) ++ flatL (l.drop i) := by
    unfold flatL
    rw [← List.flatMap_append, List.take_append_drop]
  rw [this, List.length_append]; omega
theorem flatL_mem {l : List (Bool × List Data)} {x : Bool × List Data} {d : Data} (h : x ∈ l) (hd : d ∈ x.2) : (x.1, d) ∈ flatL l := List.mem_flatMap.2 ⟨x, h, List.mem_map.2 ⟨d, hd, rfl⟩⟩
theorem saysPk_app (t : Talk) (a b : List (Bool × Data)) : saysPk t (a ++ b) = saysPk t a ++ saysPk t b := by unfold saysPk; rw [List.flatMap_append]
theorem s_implTalkPackets (t : Talk) (hl : t.says.length ≤ 1048576) (hx : ∀ s ∈ t.says, s.text.length ≤ 1048576) : Spec Try.prog 37 0 [] [t.ro] (Plain fun r => r = .r (.ro none ((talkPk t).map Packet.row))) := by
  by_cases hv : talkB t = true
  rotate_left
  · have e : talkPk t = [] := by unfold talkPk; rw [if_neg hv]
    rw [e]
    refine Spec.nilP ?_
    have hv' : talkB t = false := by simpa using hv
    refine mr37 rfl fun c hP hm => ?_
    unfold pc37 Talk.ro Talk.av
    refine run_seq (run_wpc _ _ _ _ _ ?_)
    simp only [hm, go_sem, ↓reduceIte]
    refine run_seq (run_wpc _ _ _ _ _ ?_)
    simp only [hm, go_sem, ↓reduceIte]
    refine call_pure (hP ▸ s_implTalkValid t (by omega)) rfl rfl ?_
    simp only [hv', hm, go_sem, ↓reduceIte]
  refine Spec.data1 (sz := 4) (Q := fun r hp _ _ => ∃ b, r = .sl b 0 ((talkPk t).map Packet.row).length ∧ hget hp b = some (.row 4 ((talkPk t).map Packet.row))) ?_ (fun r hp nx gs h => h)
  have hi := init_ok hv
  refine mr37 rfl fun c hP hm => ?_
  unfold pc37 Talk.ro Talk.av
  refine run_seq (run_wpc _ _ _ _ _ ?_)
  simp only [hm, go_sem, ↓reduceIte]
  refine run_seq (run_wpc _ _ _ _ _ ?_)
  simp only [hm, go_sem, ↓reduceIte]
  refine call_pure (hP ▸ s_implTalkValid t (by omega)) rfl rfl ?_
  simp only [hv, hm, go_sem, ↓reduceIte]
  refine run_seq (run_wpc _ _ _ _ _ ?_)
  simp only [hm, go_sem, ↓reduceIte]
  refine run_seq (run_wpc _ _ _ _ _ ?_)
  simp only [hm, go_sem, ↓reduceIte]
  refine run_seq (run_wpc _ _ _ _ _ ?_)
  simp only [hm, go_sem, ↓reduceIte]
  refine run_seq (run_wpc _ _ _ _ _ ?_)
  simp only [hm, go_sem, ↓reduceIte]
  refine call_data (hP ▸ s_implInitPut t.a false (hi false)) rfl rfl ?_
  simp only [Chunk.av, hm, go_sem, ↓reduceIte]
  refine run_seq (run_wpc _ _ _ _ _ ?_)
  simp only [hm, go_sem, ↓reduceIte]
  refine call_data (hP ▸ s_implInitPut t.b true (hi true)) rfl rfl ?_
  simp only [Chunk.av, hm, go_sem, ↓reduceIte]
  have hlist : (talkLists t).length ≤ 4 := by
    have : ∀ (l : List Say) (f g : List Data), (lists t.size.toNat t.a.tsn t.b.tsn l f g).length = l.length := by
      intro l
      induction l with
      | nil => intro f g; rfl
      | cons s l ih => intro f g; simp only [lists]; split <;> simp [ih]
    unfold talkLists
    rw [this]
    exact (talk_ok hv).2.1
  have hal := all_len hv
  refine run_seq (run_wpc _ _ _ _ _ ?_)
  simp only [hm, go_sem, ↓reduceIte]
  refine c_send hP (t := t) (byB := false) (c := initPut t.a false) (tag := 0) (L := []) (by simp) 0 2 1 (by decide) rfl rfl rfl ?_
  simp only [hm, go_sem, ↓reduceIte]
  refine run_seq (run_wpc _ _ _ _ _ ?_)
  simp only [hm, go_sem, ↓reduceIte]
  refine c_say hP (t := t) (byB := true) (c := initPut t.b true) (L := ((hello t).take 1).map Packet.row) (by simp [hello]) 0 2 6 3 (by decide) rfl rfl rfl rfl ?_
  simp only [hm, go_sem, ↓reduceIte]
  refine run_seq (run_wpc _ _ _ _ _ ?_)
  simp only [hm, go_sem, ↓reduceIte]
  refine c_say hP (t := t) (byB := false) (c := ⟨10, 0, []⟩) (L := ((hello t).take 2).map Packet.row) (by simp [hello]) 0 2 7 3 (by decide) rfl rfl rfl rfl ?_
  simp only [hm, go_sem, ↓reduceIte]
  refine run_seq (run_wpc _ _ _ _ _ ?_)
  simp only [hm, go_sem, ↓reduceIte]
  refine c_say hP (t := t) (byB := true) (c := ⟨11, 0, []⟩) (L := ((hello t).take 3).map Packet.row) (by simp [hello]) 0 2 8 3 (by decide) rfl rfl rfl rfl ?_
  simp only [hm, go_sem, ↓reduceIte]
  refine run_seq (run_wpc _ _ _ _ _ ?_)
  simp only [hm, go_sem, ↓reduceIte]
  refine call_dataP (hP ▸ s_partsOfP t hv) rfl rfl ?_
  simp only [hm, go_sem, ↓reduceIte]
  intro _
  have e0 : List.map Packet.row (List.take 3 (hello t)) ++ [(onePk t true ⟨11, 0, []⟩).row] = (hello t).map Packet.row := rfl
  have e1 : (List.take 3 (hello t)).length + 1 = (hello t).length := rfl
  have hh : (hello t).length = 4 := rfl
  rw [e0, e1]
  have hflat := talk_flat t
  have hfl : (flatL (talkLists t)).length ≤ 24 := by rw [← hflat]; exact hal
  have hok : ∀ x ∈ talkLists t, ∀ d ∈ x.2, dataB d = true := fun x hx d hd => talkAll_data hv (x := (x.1, d)) (by rw [hflat]; exact flatL_mem hx hd)
  refine run_exit 0 (fun t0 => t0 = ⟨[(3, .ptr 1 0 0), (5, .fn 85 [.ptr 3 0 0, .ptr 0 0 0])], [(0, .var t.cells), (1, .var [.sl 2 0 (hello t ++ saysPk t t.all).length]), (2, .row 4 ((hello t ++ saysPk t t.all).map Packet.row)), (3, .var [.fn 84 [.ptr 0 0 0, .ptr 1 0 0]])], 4, []⟩) ?_ ?_
  · refine lp_wpc (α := Nat) (fun i => ⟨[(3, .ptr 1 0 0), (5, .fn 85 [.ptr 3 0 0, .ptr 0 0 0]), (49, .r (.ro none ((talkLists t).map listRow))), (50, .i (talkLists t).length), (51, .i i)], [(0, .var t.cells), (1, .var [.sl 2 0 (hello t ++ saysPk t (flatL ((talkLists t).take i))).length]), (2, .row 4 ((hello t ++ saysPk t (flatL ((talkLists t).take i))).map Packet.row)), (3, .var [.fn 84 [.ptr 0 0 0, .ptr 1 0 0]])], 4, []⟩)
      (fun i => i ≤ (talkLists t).length) (fun i => (talkLists t).length - i) 0 (Nat.zero_le _) (by rw [List.take_zero]; simp only [flatL, List.flatMap_nil, saysPk, List.append_nil]; (refine le_ev [(0, 0), (1, 2), (2, 9), (3, 3)] ?_; simp only [hm, go_sem, ↓reduceIte]; first | done | rfl | exact ⟨rfl, rfl⟩)) ?_
    intro i hi
    unfold pc37l1
    rcases Nat.lt_or_ge i (talkLists t).length with hil | hil
    · have hw : IntKind.i64.wrap ((i : Int) + 1) = ((i + 1 : Nat) : Int) := by rw [wrap64 (by omega) (by omega)]; omega
      have hg := getD_map (f := listRow) hil
      have hft := flatL_take hil
      have hfle := flatL_len (l := talkLists t) (i + 1)
      have hxok := hok _ (List.getElem_mem hil)
      generalize (talkLists t)[i] = x at hg hft hxok
      rw [hft] at hfle
      simp only [Int.toNat_natCast, hg, listRow, hm, go_sem, ↓reduceIte]
      repeat' first | refine And.intro ?_ ?_ | intro _
      all_goals first
        | omega
        | rfl
        | skip
      refine lp_wpc (α := Nat) (fun k => ⟨[(3, .ptr 1 0 0), (5, .fn 85 [.ptr 3 0 0, .ptr 0 0 0]), (49, .r (.ro none ((talkLists t).map listRow))), (50, .i (talkLists t).length), (51, .i i), (55, .r (.ro none (x.2.map (tpRow x.1)))), (56, .i x.2.length), (57, .i k)], [(0, .var t.cells), (1, .var [.sl 2 0 (hello t ++ saysPk t (flatL ((talkLists t).take i) ++ (x.2.take k).map fun d => (x.1, d))).length]), (2, .row 4 ((hello t ++ saysPk t (flatL ((talkLists t).take i) ++ (x.2.take k).map fun d => (x.1, d))).map Packet.row)), (3, .var [.fn 84 [.ptr 0 0 0, .ptr 1 0 0]])], 4, []⟩)
        (fun k => k ≤ x.2.length) (fun k => x.2.length - k) 0 (Nat.zero_le _) (by rw [List.take_zero, List.map_nil, List.append_nil]; (refine le_ev [] ?_; simp only [hm, go_sem, ↓reduceIte]; first | done | rfl | exact ⟨rfl, rfl⟩)) ?_
      intro k hk
      unfold pc37l0
      rcases Nat.lt_or_ge k x.2.length with hkl | hkl
      · have hwk : IntKind.i64.wrap ((k : Int) + 1) = ((k + 1 : Nat) : Int) := by rw [wrap64 (by omega) (by omega)]; omega
        have hgk := getD_map (f := tpRow x.1) hkl
        have htk := take_get hkl
        have hd := hxok _ (List.getElem_mem hkl)
        generalize x.2[k] = d at hgk htk hd
        have htsn := (data_ok hd).1
        have hlen2 : (flatL ((talkLists t).take i) ++ (x.2.take k).map fun d => (x.1, d)).length ≤ 24 := by
          rw [List.length_append, List.length_map] at hfle ⊢
          rw [List.length_take]; omega
        have hso : (saysPk t (flatL ((talkLists t).take i) ++ (x.2.take k).map fun d => (x.1, d))).length ≤ 48 := by rw [saysPk_len]; omega
        have hnext : hello t ++ saysPk t (flatL ((talkLists t).take i) ++ (x.2.take (k + 1)).map fun d => (x.1, d)) = hello t ++ saysPk t (flatL ((talkLists t).take i) ++ (x.2.take k).map fun d => (x.1, d)) ++ [onePk t x.1 (dataPut d)] ++ [onePk t (!x.1) (sackPut ⟨d.tsn, []⟩)] := by
          rw [htk, List.map_append, ← List.append_assoc, saysPk_app t _ (List.map _ [d])]
          simp [saysPk]
        have hpl : (hello t ++ saysPk t (flatL ((talkLists t).take i) ++ (x.2.take k).map fun d => (x.1, d))).length ≤ 60 := by rw [List.length_append]; omega
        generalize hello t ++ saysPk t (flatL ((talkLists t).take i) ++ (x.2.take k).map fun d => (x.1, d)) = out at hnext hpl
        simp only [hwk, Int.toNat_natCast, hgk, tpRow, Data.row, hm, go_sem, ↓reduceIte]
        repeat' first | refine And.intro ?_ ?_ | intro _
        all_goals first
          | omega
          | rfl
          | skip
        refine call_data (hP ▸ s_implDataPut d hd) rfl rfl ?_
        simp only [Chunk.av, hm, go_sem, ↓reduceIte]
        refine call_data (hP ▸ s_implSackPut0 d.tsn htsn) rfl rfl ?_
        simp only [Chunk.av, hm, go_sem, ↓reduceIte]
        refine c_say hP (t := t) (byB := x.1) (c := dataPut d) (L := out.map Packet.row) (by rw [List.length_map]; omega) 0 1 2 3 (by decide) rfl (by rw [List.length_map]; rfl) rfl rfl ?_
        simp only [hm, go_sem, ↓reduceIte]
        refine c_say hP (t := t) (byB := !x.1) (c := sackPut ⟨d.tsn, []⟩) (L := (out ++ [onePk t x.1 (dataPut d)]).map Packet.row) (by rw [List.length_map, List.length_append]; simp; omega) 0 1 7 3 (by decide) rfl (by rw [List.length_map, List.length_append]; rfl) (by rw [List.map_append]; rfl) rfl ?_
        simp only [List.length_append, List.length_map, List.length_cons, List.length_nil, hm, go_sem, ↓reduceIte]
        refine ⟨k + 1, hkl, by omega, ?_⟩
        have hnl : (hello t).length + (saysPk t (flatL ((talkLists t).take i) ++ (x.2.take (k + 1)).map fun d => (x.1, d))).length = out.length + 1 + 1 := by rw [← List.length_append, hnext, List.length_append, List.length_append]; rfl
        try rw [hnl]
        rw [hnext, hwk]
        simp only [List.map_append, List.length_append, List.length_cons, List.length_nil, List.append_assoc, List.map_cons, List.map_nil]
        (refine le_ev [(0, 0), (1, 1), (2, 8), (3, 3)] ?_; simp only [hm, go_sem, ↓reduceIte]; first | done | rfl | exact ⟨rfl, rfl⟩)
      · have : k = x.2.length := by omega
        subst this
        rw [List.take_length, ← hft]
        simp only [hw, hm, go_sem, ↓reduceIte]
        repeat' first | refine And.intro ?_ ?_ | intro _
        all_goals first
          | omega
          | (refine ⟨i + 1, hil, by omega, ?_⟩; (refine le_ev [] ?_; simp only [hm, go_sem, ↓reduceIte]; first | done | rfl | exact ⟨rfl, rfl⟩))
    · have : i = (talkLists t).length := by omega
      subst this
      rw [List.take_length, ← hflat]
      simp only [hm, go_sem, ↓reduceIte]
      repeat' first | refine And.intro ?_ ?_ | intro _
      all_goals first
        | omega
        | (refine ⟨_, rfl, ?_⟩; (refine le_ev [] ?_; simp only [hm, go_sem, ↓reduceIte]; first | done | rfl | exact ⟨rfl, rfl⟩))
  rintro t0 rfl
  rw [if_pos rfl]
  have hpk : talkPk t = hello t ++ saysPk t t.all ++ bye t := by unfold talkPk; rw [if_pos hv]
  have hpl : (hello t ++ saysPk t t.all).length ≤ 60 := by rw [List.length_append, saysPk_len]; omega
  rw [hpk]
  generalize hello t ++ saysPk t t.all = out at hpl
  refine run_seq (run_wpc _ _ _ _ _ ?_)
  simp only [hm, go_sem, ↓reduceIte]
  refine c_say hP (t := t) (byB := false) (c := ⟨7, 0, []⟩) (L := out.map Packet.row) (by rw [List.length_map]; omega) 0 1 2 3 (by decide) rfl (by rw [List.length_map]; rfl) rfl rfl ?_
  simp only [hm, go_sem, ↓reduceIte]
  refine run_seq (run_wpc _ _ _ _ _ ?_)
  simp only [hm, go_sem, ↓reduceIte]
  refine c_say hP (t := t) (byB := true) (c := ⟨8, 0, []⟩) (L := (out ++ (bye t).take 1).map Packet.row) (by rw [List.length_map, List.length_append]; simp [bye]; omega) 0 1 4 3 (by decide) rfl (by rw [List.length_map, List.length_append]; rfl) (by rw [List.map_append]; rfl) rfl ?_
  simp only [hm, go_sem, ↓reduceIte]
  refine run_seq (run_wpc _ _ _ _ _ ?_)
  simp only [hm, go_sem, ↓reduceIte]
  refine c_say hP (t := t) (byB := false) (c := ⟨14, 0, []⟩) (L := (out ++ (bye t).take 2).map Packet.row) (by rw [List.length_map, List.length_append]; simp [bye]; omega) 0 1 5 3 (by decide) rfl (by rw [List.length_map, List.length_append]; rfl) (by simp only [go_sem, ↓reduceIte, List.map_append, List.append_assoc]; rfl) rfl ?_
  simp only [hm, go_sem, ↓reduceIte]
  refine run_wpc _ _ _ _ _ ?_
  simp only [hm, go_sem, ↓reduceIte]
  refine ⟨6, rfl, ?_⟩
  simp only [List.map_append, List.append_assoc, hm, go_sem, ↓reduceIte]
  rfl
end Go.Cap

/- Contracts: the packets of a talk (the program's), each with its own chunks. -/
namespace Go.Cap
open Go Go.Proofs
set_option maxRecDepth 100000
set_option linter.unusedSimpArgs false
set_option linter.unusedVariables false
attribute [local irreducible] Call Run Spec Le

/-- A packet whose chunks lie in a block that is known. -/
def rowG (x : Packet × Nat) : List RV := [.n .i64 x.1.fr, .n .i64 x.1.to, .n .i64 x.1.tag, .ro (some x.2) (x.1.chunks.map Chunk.row)]
theorem s_sendG (t : Talk) (byB : Bool) (c : Chunk) (tag : Int) (L : List (List RV)) (hL : L.length ≤ 100000) :
    Spec Try.prog 84 3 [(0, .var t.cells), (1, .var [.sl 2 0 L.length]), (2, .row 4 L)] [.bo byB, c.av, .i tag, .ptr 0 0 0, .ptr 1 0 0]
      (fun r hp nx gs => ∃ g, r = .tup [] ∧ hp = [(0, .var t.cells), (1, .var [.sl 3 0 (L.length + 1)]), (3, .row 4 (L ++ [rowG (sendPk t byB c tag, g)]))] ∧ nx = 4 ∧ gs = [g]) := by
  refine Spec.le (Q := fun r hp nx gs => ∃ g, r = .tup [] ∧ gs = [g] ∧ ∃ b, b ≠ 0 ∧ b ≠ 1 ∧ hget hp 0 = some (.var t.cells) ∧ hget hp 1 = some (.var [.sl b 0 (L.length + 1)]) ∧ hget hp b = some (.row 4 (L ++ [rowG (sendPk t byB c tag, g)]))) ?_ ?_
  · refine mr84 rfl fun cx hP hm => ?_
    unfold pc84 Chunk.av Talk.cells
    refine run_seq (run_wpc _ _ _ _ _ ?_)
    simp only [hm, go_sem, ↓reduceIte]
    refine run_seq (run_wpc _ _ _ _ _ ?_)
    simp only [hm, go_sem, ↓reduceIte]
    refine run_fzg 4 rfl (by simp) (by first | (simp only [hm, List.length_map, go_sem, ↓reduceIte]; done) | (simp only [hm, List.length_map, go_sem, ↓reduceIte]; omega)) (by first | (simp only [hm, List.length_map, go_sem, ↓reduceIte]; done) | (simp only [hm, List.length_map, go_sem, ↓reduceIte]; omega)) fun g => ?_; simp only [hm, take_map_len, List.drop_zero, go_sem, ↓reduceIte]
    refine run_wpc _ _ _ _ _ ?_
    have hrw : List.take L.length L = L := List.take_length
    unfold sendPk
    cases byB
    · simp only [hrw, Bool.false_eq_true, if_false, rowG, List.map_cons, List.map_nil, Chunk.row, hm, go_sem, ↓reduceIte]
      refine ⟨by omega, g, rfl, _, ?_, ?_, rfl, rfl⟩
      all_goals decide
    · simp only [hrw, if_true, rowG, List.map_cons, List.map_nil, Chunk.row, hm, go_sem, ↓reduceIte]
      refine ⟨by omega, g, rfl, _, ?_, ?_, rfl, rfl⟩
      all_goals decide
  · rintro r hp nx gs ⟨g, rfl, rfl, b, n0, n1, h0, h1, h2⟩
    refine ⟨.tup [], _, 4, [g], ⟨g, rfl, rfl, rfl, rfl⟩, fun cx hc => ?_⟩
    refine le_evg [(3, b)] rfl ?_
    simp only [hc, go_sem, ↓reduceIte, h0, h1, h2]
    rintro (h | h)
    · exact n1 h
    · exact n0 h
theorem c_sendG {cx : Cx} (hP : cx.P = Try.prog) {t : Talk} {byB : Bool} {c : Chunk} {tag : Int} {L : List (List RV)} (hL : L.length ≤ 100000) {s : St} {K : AV → St → Prop} (b0 b1 b2 : Nat) (hnd : [b0, b1, b2].Nodup)
    (h0 : hget s.hp b0 = some (.var t.cells)) (h1 : hget s.hp b1 = some (.var [.sl b2 0 L.length])) (h2 : hget s.hp b2 = some (.row 4 L))
    (hK : ∀ g, K (.tup []) ⟨s.sl, (b0, .var t.cells) :: (b1, .var [.sl s.nx 0 (L.length + 1)]) :: (s.nx, .row 4 (L ++ [rowG (sendPk t byB c tag, g)])) :: hdel (hdel (hdel s.hp b0) b1) b2, s.nx + 1, g :: s.gs⟩) : Call cx 84 [.bo byB, c.av, .i tag, .ptr b0 0 0, .ptr b1 0 0] s K := by
  refine call_spec [b0, b1, b2] (hP ▸ s_sendG t byB c tag L hL) hnd ?_ ?_ ?_ fun r hp' nx' gs' h => ?_
  · intro p hp
    simp only [List.mem_cons, List.mem_singleton, List.not_mem_nil, or_false] at hp
    rcases hp with rfl | rfl | rfl
    · exact ⟨by simp, by rw [show idf [b0, b1, b2] s.nx 0 = b0 from rfl, h0]; rfl⟩
    · exact ⟨by simp, by rw [show idf [b0, b1, b2] s.nx 1 = b1 from rfl, h1]; rfl⟩
    · exact ⟨by simp, by rw [show idf [b0, b1, b2] s.nx 2 = b2 from rfl, h2]; rfl⟩
  · intro j hj
    have : j = 0 ∨ j = 1 ∨ j = 2 := by simp at hj; omega
    rcases this with rfl | rfl | rfl
    · exact ⟨_, List.mem_cons_self ..⟩
    · exact ⟨_, List.mem_cons_of_mem _ (List.mem_cons_self ..)⟩
    · exact ⟨_, List.mem_cons_of_mem _ (List.mem_cons_of_mem _ (List.mem_cons_self ..))⟩
  · rfl
  · obtain ⟨g, rfl, rfl, rfl, rfl⟩ := h
    exact hK g
theorem s_sayG (t : Talk) (byB : Bool) (c : Chunk) (L : List (List RV)) (hL : L.length ≤ 100000) :
    Spec Try.prog 85 4 [(0, .var t.cells), (1, .var [.sl 2 0 L.length]), (2, .row 4 L), (3, .var [.fn 84 [.ptr 0 0 0, .ptr 1 0 0]])] [.bo byB, c.av, .ptr 3 0 0, .ptr 0 0 0]
      (fun r hp nx gs => ∃ g, r = .tup [] ∧ hp = [(0, .var t.cells), (1, .var [.sl 4 0 (L.length + 1)]), (4, .row 4 (L ++ [rowG (onePk t byB c, g)])), (3, .var [.fn 84 [.ptr 0 0 0, .ptr 1 0 0]])] ∧ nx = 5 ∧ gs = [g]) := by
  refine Spec.le (Q := fun r hp nx gs => ∃ g, r = .tup [] ∧ gs = [g] ∧ ∃ b, b ≠ 0 ∧ b ≠ 1 ∧ b ≠ 3 ∧ hget hp 0 = some (.var t.cells) ∧ hget hp 1 = some (.var [.sl b 0 (L.length + 1)]) ∧ hget hp b = some (.row 4 (L ++ [rowG (onePk t byB c, g)])) ∧ hget hp 3 = some (.var [.fn 84 [.ptr 0 0 0, .ptr 1 0 0]])) ?_ ?_
  · refine mk85 rfl fun cx hP hm => ?_
    unfold pc85 Chunk.av Talk.cells
    cases byB
    · simp only [hm, go_sem, ↓reduceIte]
      refine c_sendG hP (t := t) (byB := false) (c := c) (tag := t.b.tag) hL 0 1 2 (by decide) rfl rfl rfl fun g => ?_
      simp only [hm, go_sem, ↓reduceIte]
      refine ⟨g, rfl, 5, ?_⟩
      simp only [hm, go_sem, ↓reduceIte]
      rfl
    · simp only [hm, go_sem, ↓reduceIte]
      refine c_sendG hP (t := t) (byB := true) (c := c) (tag := t.a.tag) hL 0 1 2 (by decide) rfl rfl rfl fun g => ?_
      simp only [hm, go_sem, ↓reduceIte]
      refine ⟨g, rfl, 5, ?_⟩
      simp only [hm, go_sem, ↓reduceIte]
      rfl
  · rintro r hp nx gs ⟨g, rfl, rfl, b, n0, n1, n3, h0, h1, h2, h3⟩
    refine ⟨.tup [], _, 5, [g], ⟨g, rfl, rfl, rfl, rfl⟩, fun cx hc => ?_⟩
    refine le_evg [(4, b)] rfl ?_
    simp only [hc, go_sem, ↓reduceIte, h0, h1, h2, h3]
    refine ⟨?_, fun h => n3 h.symm⟩
    rintro (h | h)
    · exact n1 h
    · exact n0 h
theorem c_sayG {cx : Cx} (hP : cx.P = Try.prog) {t : Talk} {byB : Bool} {c : Chunk} {L : List (List RV)} (hL : L.length ≤ 100000) {s : St} {K : AV → St → Prop} (b0 b1 b2 b3 : Nat) (hnd : [b0, b1, b2, b3].Nodup)
    (h0 : hget s.hp b0 = some (.var t.cells)) (h1 : hget s.hp b1 = some (.var [.sl b2 0 L.length])) (h2 : hget s.hp b2 = some (.row 4 L)) (h3 : hget s.hp b3 = some (.var [.fn 84 [.ptr b0 0 0, .ptr b1 0 0]]))
    (hK : ∀ g, K (.tup []) ⟨s.sl, (b0, .var t.cells) :: (b1, .var [.sl s.nx 0 (L.length + 1)]) :: (s.nx, .row 4 (L ++ [rowG (onePk t byB c, g)])) :: (b3, .var [.fn 84 [.ptr b0 0 0, .ptr b1 0 0]]) :: hdel (hdel (hdel (hdel s.hp b0) b1) b2) b3, s.nx + 1, g :: s.gs⟩) : Call cx 85 [.bo byB, c.av, .ptr b3 0 0, .ptr b0 0 0] s K := by
  refine call_spec [b0, b1, b2, b3] (hP ▸ s_sayG t byB c L hL) hnd ?_ ?_ ?_ fun r hp' nx' gs' h => ?_
  · intro p hp
    simp only [List.mem_cons, List.mem_singleton, List.not_mem_nil, or_false] at hp
    rcases hp with rfl | rfl | rfl | rfl
    · exact ⟨by simp, by rw [show idf [b0, b1, b2, b3] s.nx 0 = b0 from rfl, h0]; rfl⟩
    · exact ⟨by simp, by rw [show idf [b0, b1, b2, b3] s.nx 1 = b1 from rfl, h1]; rfl⟩
    · exact ⟨by simp, by rw [show idf [b0, b1, b2, b3] s.nx 2 = b2 from rfl, h2]; rfl⟩
    · exact ⟨by simp, by rw [show idf [b0, b1, b2, b3] s.nx 3 = b3 from rfl, h3]; rfl⟩
  · intro j hj
    have : j = 0 ∨ j = 1 ∨ j = 2 ∨ j = 3 := by simp at hj; omega
    rcases this with rfl | rfl | rfl | rfl
    · exact ⟨_, List.mem_cons_self ..⟩
    · exact ⟨_, List.mem_cons_of_mem _ (List.mem_cons_self ..)⟩
    · exact ⟨_, List.mem_cons_of_mem _ (List.mem_cons_of_mem _ (List.mem_cons_self ..))⟩
    · exact ⟨_, List.mem_cons_of_mem _ (List.mem_cons_of_mem _ (List.mem_cons_of_mem _ (List.mem_cons_self ..)))⟩
  · rfl
  · obtain ⟨g, rfl, rfl, rfl, rfl⟩ := h
    exact hK g
def PkQ (pk : List Packet) : AV → List (Nat × Blk) → Nat → List Nat → Prop := fun r hp _ gs => ∃ (b : Nat) (O : List (Packet × Nat)), O.map (·.1) = pk ∧ r = .sl b 0 O.length ∧ hget hp b = some (.row 4 (O.map rowG)) ∧ gs = (O.map (·.2)).reverse
theorem s_implTalkPacketsG (t : Talk) (hl : t.says.length ≤ 1048576) (hx : ∀ s ∈ t.says, s.text.length ≤ 1048576) (hv : talkB t = true) : Spec Try.prog 37 0 [] [t.ro] (PkQ (talkPk t)) := by
  have hi := init_ok hv
  refine mr37 rfl fun c hP hm => ?_
  unfold pc37 Talk.ro Talk.av
  refine run_seq (run_wpc _ _ _ _ _ ?_)
  simp only [hm, go_sem, ↓reduceIte]
  refine run_seq (run_wpc _ _ _ _ _ ?_)
  simp only [hm, go_sem, ↓reduceIte]
  refine call_pure (hP ▸ s_implTalkValid t (by omega)) rfl rfl ?_
  simp only [hv, hm, go_sem, ↓reduceIte]
  refine run_seq (run_wpc _ _ _ _ _ ?_)
  simp only [hm, go_sem, ↓reduceIte]
  refine run_seq (run_wpc _ _ _ _ _ ?_)
  simp only [hm, go_sem, ↓reduceIte]
  refine run_seq (run_wpc _ _ _ _ _ ?_)
  simp only [hm, go_sem, ↓reduceIte]
  refine run_seq (run_wpc _ _ _ _ _ ?_)
  simp only [hm, go_sem, ↓reduceIte]
  refine call_data (hP ▸ s_implInitPut t.a false (hi false)) rfl rfl ?_
  simp only [Chunk.av, hm, go_sem, ↓reduceIte]
  refine run_seq (run_wpc _ _ _ _ _ ?_)
  simp only [hm, go_sem, ↓reduceIte]
  refine call_data (hP ▸ s_implInitPut t.b true (hi true)) rfl rfl ?_
  simp only [Chunk.av, hm, go_sem, ↓reduceIte]
  have hlist : (talkLists t).length ≤ 4 := by
    have : ∀ (l : List Say) (f g : List Data), (lists t.size.toNat t.a.tsn t.b.tsn l f g).length = l.length := by
      intro l
      induction l with
      | nil => intro f g; rfl
      | cons s l ih => intro f g; simp only [lists]; split <;> simp [ih]
    unfold talkLists
    rw [this]
    exact (talk_ok hv).2.1
  have hal := all_len hv
  refine run_seq (run_wpc _ _ _ _ _ ?_)
  simp only [hm, go_sem, ↓reduceIte]
  refine c_sendG hP (t := t) (byB := false) (c := initPut t.a false) (tag := 0) (L := []) (by simp) 0 2 1 (by decide) rfl rfl rfl fun g0 => ?_
  simp only [hm, go_sem, ↓reduceIte]
  refine run_seq (run_wpc _ _ _ _ _ ?_)
  simp only [hm, go_sem, ↓reduceIte]
  refine c_sayG hP (t := t) (byB := true) (c := initPut t.b true) (L := [rowG (sendPk t false (initPut t.a false) 0, g0)]) (by simp) 0 2 6 3 (by decide) rfl rfl rfl rfl fun g1 => ?_
  simp only [hm, go_sem, ↓reduceIte]
  refine run_seq (run_wpc _ _ _ _ _ ?_)
  simp only [hm, go_sem, ↓reduceIte]
  refine c_sayG hP (t := t) (byB := false) (c := ⟨10, 0, []⟩) (L := [rowG (sendPk t false (initPut t.a false) 0, g0), rowG (onePk t true (initPut t.b true), g1)]) (by simp) 0 2 7 3 (by decide) rfl rfl rfl rfl fun g2 => ?_
  simp only [hm, go_sem, ↓reduceIte]
  refine run_seq (run_wpc _ _ _ _ _ ?_)
  simp only [hm, go_sem, ↓reduceIte]
  refine c_sayG hP (t := t) (byB := true) (c := ⟨11, 0, []⟩) (L := [rowG (sendPk t false (initPut t.a false) 0, g0), rowG (onePk t true (initPut t.b true), g1), rowG (onePk t false ⟨10, 0, []⟩, g2)]) (by simp) 0 2 8 3 (by decide) rfl rfl rfl rfl fun g3 => ?_
  simp only [hm, go_sem, ↓reduceIte]
  refine run_seq (run_wpc _ _ _ _ _ ?_)
  simp only [hm, go_sem, ↓reduceIte]
  refine call_dataP (hP ▸ s_partsOfP t hv) rfl rfl ?_
  simp only [hm, go_sem, ↓reduceIte]
  intro _
  have hO4 : [(sendPk t false (initPut t.a false) 0, g0), (onePk t true (initPut t.b true), g1), (onePk t false ⟨10, 0, []⟩, g2), (onePk t true ⟨11, 0, []⟩, g3)].map (·.1) = hello t := rfl
  have hh : (hello t).length = 4 := rfl
  have hflat := talk_flat t
  have hfl : (flatL (talkLists t)).length ≤ 24 := by rw [← hflat]; exact hal
  have hok : ∀ x ∈ talkLists t, ∀ d ∈ x.2, dataB d = true := fun x hx d hd => talkAll_data hv (x := (x.1, d)) (by rw [hflat]; exact flatL_mem hx hd)
  obtain ⟨O4, hO4, hrows, hgs4, hlen4⟩ : ∃ O4 : List (Packet × Nat), O4.map (·.1) = hello t ∧ [rowG (sendPk t false (initPut t.a false) 0, g0), rowG (onePk t true (initPut t.b true), g1), rowG (onePk t false ⟨10, 0, []⟩, g2), rowG (onePk t true ⟨11, 0, []⟩, g3)] = O4.map rowG ∧ [g3, g2, g1, g0] = (O4.map (·.2)).reverse ∧ O4.length = 4 :=
    ⟨[(sendPk t false (initPut t.a false) 0, g0), (onePk t true (initPut t.b true), g1), (onePk t false ⟨10, 0, []⟩, g2), (onePk t true ⟨11, 0, []⟩, g3)], rfl, rfl, rfl, rfl⟩
  rw [hrows, hgs4, show (AV.sl 9 0 4) = AV.sl 9 0 O4.length by rw [hlen4]]
  clear hrows hgs4
  have hflat := talk_flat t
  have hfl : (flatL (talkLists t)).length ≤ 24 := by rw [← hflat]; exact hal
  have hok : ∀ x ∈ talkLists t, ∀ d ∈ x.2, dataB d = true := fun x hx d hd => talkAll_data hv (x := (x.1, d)) (by rw [hflat]; exact flatL_mem hx hd)
  refine run_exit 0 (fun t0 => ∃ O : List (Packet × Nat), O.map (·.1) = hello t ++ saysPk t t.all ∧ t0 = ⟨[(3, .ptr 1 0 0), (5, .fn 85 [.ptr 3 0 0, .ptr 0 0 0])], [(0, .var t.cells), (1, .var [.sl 2 0 O.length]), (2, .row 4 (O.map rowG)), (3, .var [.fn 84 [.ptr 0 0 0, .ptr 1 0 0]])], 4, (O.map (·.2)).reverse⟩) ?_ ?_
  · refine lp_wpc (α := Nat × List (Packet × Nat)) (fun y => ⟨[(3, .ptr 1 0 0), (5, .fn 85 [.ptr 3 0 0, .ptr 0 0 0]), (49, .r (.ro none ((talkLists t).map listRow))), (50, .i (talkLists t).length), (51, .i y.1)], [(0, .var t.cells), (1, .var [.sl 2 0 y.2.length]), (2, .row 4 (y.2.map rowG)), (3, .var [.fn 84 [.ptr 0 0 0, .ptr 1 0 0]])], 4, (y.2.map (·.2)).reverse⟩)
      (fun y => y.1 ≤ (talkLists t).length ∧ y.2.map (·.1) = hello t ++ saysPk t (flatL ((talkLists t).take y.1))) (fun y => (talkLists t).length - y.1) (0, O4) ⟨Nat.zero_le _, by rw [hO4, List.take_zero]; simp only [flatL, List.flatMap_nil, saysPk, List.append_nil]⟩ (by (refine le_evg [(0, 0), (1, 2), (2, 9), (3, 3)] (by first | rfl | simp) ?_; simp only [hm, go_sem, ↓reduceIte]; first | done | rfl | exact ⟨rfl, rfl⟩)) ?_
    rintro ⟨i, O⟩ ⟨hi, hO⟩
    unfold pc37l1
    simp only at hi hO
    rcases Nat.lt_or_ge i (talkLists t).length with hil | hil
    · have hw : IntKind.i64.wrap ((i : Int) + 1) = ((i + 1 : Nat) : Int) := by rw [wrap64 (by omega) (by omega)]; omega
      have hg := getD_map (f := listRow) hil
      have hft := flatL_take hil
      have hfle := flatL_len (l := talkLists t) (i + 1)
      have hxok := hok _ (List.getElem_mem hil)
      generalize (talkLists t)[i] = x at hg hft hxok
      rw [hft] at hfle
      simp only [Int.toNat_natCast, hg, listRow, hm, go_sem, ↓reduceIte]
      repeat' first | refine And.intro ?_ ?_ | intro _
      all_goals first
        | omega
        | rfl
        | skip
      refine lp_wpc (α := Nat × List (Packet × Nat)) (fun y => ⟨[(3, .ptr 1 0 0), (5, .fn 85 [.ptr 3 0 0, .ptr 0 0 0]), (49, .r (.ro none ((talkLists t).map listRow))), (50, .i (talkLists t).length), (51, .i i), (55, .r (.ro none (x.2.map (tpRow x.1)))), (56, .i x.2.length), (57, .i y.1)], [(0, .var t.cells), (1, .var [.sl 2 0 y.2.length]), (2, .row 4 (y.2.map rowG)), (3, .var [.fn 84 [.ptr 0 0 0, .ptr 1 0 0]])], 4, (y.2.map (·.2)).reverse⟩)
        (fun y => y.1 ≤ x.2.length ∧ y.2.map (·.1) = hello t ++ saysPk t (flatL ((talkLists t).take i) ++ (x.2.take y.1).map fun d => (x.1, d))) (fun y => x.2.length - y.1) (0, O) ⟨Nat.zero_le _, by rw [List.take_zero, List.map_nil, List.append_nil]; exact hO⟩ (by (refine le_evg [] (by first | rfl | simp) ?_; simp only [hm, go_sem, ↓reduceIte]; first | done | rfl | exact ⟨rfl, rfl⟩)) ?_
      clear hO
      rintro ⟨k, O⟩ ⟨hk, hO⟩
      unfold pc37l0
      simp only at hk hO
      rcases Nat.lt_or_ge k x.2.length with hkl | hkl
      · have hwk : IntKind.i64.wrap ((k : Int) + 1) = ((k + 1 : Nat) : Int) := by rw [wrap64 (by omega) (by omega)]; omega
        have hgk := getD_map (f := tpRow x.1) hkl
        have htk := take_get hkl
        have hd := hxok _ (List.getElem_mem hkl)
        generalize x.2[k] = d at hgk htk hd
        have htsn := (data_ok hd).1
        have hlen2 : (flatL ((talkLists t).take i) ++ (x.2.take k).map fun d => (x.1, d)).length ≤ 24 := by
          rw [List.length_append, List.length_map] at hfle ⊢
          rw [List.length_take]; omega
        have hso : (saysPk t (flatL ((talkLists t).take i) ++ (x.2.take k).map fun d => (x.1, d))).length ≤ 48 := by rw [saysPk_len]; omega
        have hh : (hello t).length = 4 := rfl
        have hnext : hello t ++ saysPk t (flatL ((talkLists t).take i) ++ (x.2.take (k + 1)).map fun d => (x.1, d)) = hello t ++ saysPk t (flatL ((talkLists t).take i) ++ (x.2.take k).map fun d => (x.1, d)) ++ [onePk t x.1 (dataPut d)] ++ [onePk t (!x.1) (sackPut ⟨d.tsn, []⟩)] := by
          rw [htk, List.map_append, ← List.append_assoc, saysPk_app t _ (List.map _ [d])]
          simp [saysPk]
        have hpl : O.length ≤ 60 := by
          have := congrArg List.length hO
          rw [List.length_map, List.length_append] at this; omega
        simp only [hwk, Int.toNat_natCast, hgk, tpRow, Data.row, hm, go_sem, ↓reduceIte]
        repeat' first | refine And.intro ?_ ?_ | intro _
        all_goals first
          | omega
          | rfl
          | skip
        refine call_data (hP ▸ s_implDataPut d hd) rfl rfl ?_
        simp only [Chunk.av, hm, go_sem, ↓reduceIte]
        refine call_data (hP ▸ s_implSackPut0 d.tsn htsn) rfl rfl ?_
        simp only [Chunk.av, hm, go_sem, ↓reduceIte]
        refine c_sayG hP (t := t) (byB := x.1) (c := dataPut d) (L := O.map rowG) (by rw [List.length_map]; omega) 0 1 2 3 (by decide) rfl (by rw [List.length_map]; rfl) rfl rfl fun ga => ?_
        simp only [hm, go_sem, ↓reduceIte]
        refine c_sayG hP (t := t) (byB := !x.1) (c := sackPut ⟨d.tsn, []⟩) (L := (O ++ [(onePk t x.1 (dataPut d), ga)]).map rowG) (by rw [List.length_map, List.length_append]; simp; omega) 0 1 7 3 (by decide) rfl (by rw [List.length_map, List.length_append]; rfl) (by rw [List.map_append]; rfl) rfl fun gb => ?_
        simp only [List.length_append, List.length_map, List.length_cons, List.length_nil, hm, go_sem, ↓reduceIte]
        refine ⟨(k + 1, O ++ [(onePk t x.1 (dataPut d), ga)] ++ [(onePk t (!x.1) (sackPut ⟨d.tsn, []⟩), gb)]), ⟨hkl, ?_⟩, ?_, ?_⟩
        · simp only [List.map_append, List.map_cons, List.map_nil]
          rw [hO, hnext]
        · simp only; omega
        · rw [hwk]
          simp only [List.map_append, List.length_append, List.length_cons, List.length_nil, List.append_assoc, List.map_cons, List.map_nil]
          (refine le_evg [(0, 0), (1, 1), (2, 8), (3, 3)] (by first | rfl | simp) ?_; simp only [hm, go_sem, ↓reduceIte]; first | done | rfl | exact ⟨rfl, rfl⟩)
      · have : k = x.2.length := by omega
        subst this
        rw [List.take_length, ← hft] at hO
        simp only [hw, hm, go_sem, ↓reduceIte]
        repeat' first | refine And.intro ?_ ?_ | intro _
        all_goals first
          | omega
          | (refine ⟨(i + 1, O), ⟨hil, hO⟩, by simp only; omega, ?_⟩; (refine le_evg [] (by first | rfl | simp) ?_; simp only [hm, go_sem, ↓reduceIte]; first | done | rfl | exact ⟨rfl, rfl⟩))
    · have : i = (talkLists t).length := by omega
      subst this
      rw [List.take_length, ← hflat] at hO
      simp only [hm, go_sem, ↓reduceIte]
      repeat' first | refine And.intro ?_ ?_ | intro _
      all_goals first
        | omega
        | (refine ⟨_, ⟨O, hO, rfl⟩, ?_⟩; (refine le_evg [] (by first | rfl | simp) ?_; simp only [hm, go_sem, ↓reduceIte]; first | done | rfl | exact ⟨rfl, rfl⟩))
  rintro t0 ⟨O, hO, rfl⟩
  rw [if_pos rfl]
  have hpk : talkPk t = hello t ++ saysPk t t.all ++ bye t := by unfold talkPk; rw [if_pos hv]
  have hpl : O.length ≤ 60 := by
    have := congrArg List.length hO
    rw [List.length_map, List.length_append, saysPk_len] at this; omega
  rw [hpk]
  refine run_seq (run_wpc _ _ _ _ _ ?_)
  simp only [hm, go_sem, ↓reduceIte]
  refine c_sayG hP (t := t) (byB := false) (c := ⟨7, 0, []⟩) (L := O.map rowG) (by rw [List.length_map]; omega) 0 1 2 3 (by decide) rfl (by rw [List.length_map]; rfl) rfl rfl fun ga => ?_
  simp only [hm, go_sem, ↓reduceIte]
  refine run_seq (run_wpc _ _ _ _ _ ?_)
  simp only [hm, go_sem, ↓reduceIte]
  refine c_sayG hP (t := t) (byB := true) (c := ⟨8, 0, []⟩) (L := (O ++ [(onePk t false ⟨7, 0, []⟩, ga)]).map rowG) (by rw [List.length_map, List.length_append]; simp; omega) 0 1 4 3 (by decide) rfl (by rw [List.length_map, List.length_append]; rfl) (by rw [List.map_append]; rfl) rfl fun gb => ?_
  simp only [hm, go_sem, ↓reduceIte]
  refine run_seq (run_wpc _ _ _ _ _ ?_)
  simp only [hm, go_sem, ↓reduceIte]
  refine c_sayG hP (t := t) (byB := false) (c := ⟨14, 0, []⟩) (L := (O ++ [(onePk t false ⟨7, 0, []⟩, ga), (onePk t true ⟨8, 0, []⟩, gb)]).map rowG) (by rw [List.length_map, List.length_append]; simp; omega) 0 1 5 3 (by decide) rfl (by rw [List.length_map, List.length_append]; rfl) (by simp only [go_sem, ↓reduceIte, List.map_append, List.append_assoc, List.map_cons, List.map_nil]) rfl fun gc => ?_
  simp only [hm, go_sem, ↓reduceIte]
  refine run_wpc _ _ _ _ _ ?_
  simp only [hm, go_sem, ↓reduceIte]
  refine ⟨6, O ++ [(onePk t false ⟨7, 0, []⟩, ga), (onePk t true ⟨8, 0, []⟩, gb), (onePk t false ⟨14, 0, []⟩, gc)], ?_, ?_, ?_, ?_⟩
  · rw [List.map_append, hO]; rfl
  · rw [List.length_append]; rfl
  · simp only [List.map_append, List.append_assoc, List.map_cons, List.map_nil, hm, go_sem, ↓reduceIte]
  · rw [List.map_append, List.reverse_append]; rfl
end Go.Cap

/- Contracts: marks and equality of chunks and packets. -/
namespace Go.Cap
open Go Go.Proofs
set_option maxRecDepth 100000
set_option linter.unusedSimpArgs false
set_option linter.unusedVariables false
attribute [local irreducible] Call Run Spec Le

theorem chunkClosed (l : List Chunk) : closL2 (l.map Chunk.row) := closL2_map (fun s x hx => by
  simp only [Chunk.row, List.mem_cons, List.not_mem_nil, or_false] at hx
  rcases hx with rfl | rfl | rfl <;> rfl) l
theorem s_eqChunk (x : Chunk) : Spec Try.prog 131 0 [] [x.av, x.av] (fun r _ _ _ => r = .bo true) := by
  refine mk131 rfl fun c hP hm => ?_
  unfold pc131 Chunk.av
  simp only [go_sem, ↓reduceIte]
theorem s_eqChunkS (l : List Chunk) : Spec Try.prog 69 0 [] [.r (.ro none (l.map Chunk.row)), .r (.ro none (l.map Chunk.row))] (fun r _ _ _ => r = .bo true) := by
  refine mk69 rfl fun c hP hm => ?_
  unfold pc69
  simp only [go_sem, ↓reduceIte]
  intro hlen _
  refine lp_wpc (α := Nat) (fun i => ⟨[(0, .r (.ro none (l.map Chunk.row))), (1, .r (.ro none (l.map Chunk.row))), (5, .i i)], [], 0, []⟩) (fun i => i ≤ l.length) (fun i => l.length - i) 0 (Nat.zero_le _) (Le.refl _) ?_
  intro i hi
  unfold pc69l0
  simp only [go_sem, ↓reduceIte]
  intro _
  intro hlt
  have hil : i < l.length := by omega
  simp only [Int.toNat_natCast, getD_map hil, Chunk.row, go_sem, ↓reduceIte]
  refine ⟨⟨by omega, by omega⟩, ⟨by omega, by omega⟩, ?_⟩
  refine call_pure (hP ▸ s_eqChunk l[i]) rfl rfl ?_
  simp only [go_sem, ↓reduceIte]
  rw [wrap64 (by omega) (by omega)]
  exact ⟨i + 1, hil, by omega, Le.refl _⟩
theorem s_eqPacket (p : Packet) : Spec Try.prog 28 0 [] [p.ro, p.ro] (fun r _ _ _ => r = .bo true) := by
  refine mk28 rfl fun c hP hm => ?_
  unfold pc28 Packet.ro
  simp only [go_sem, ↓reduceIte]
  refine call_pure (hP ▸ s_eqChunkS p.chunks) rfl rfl ?_
  simp only [go_sem, ↓reduceIte]
def markChunk (n : Int) : Chunk := ⟨n, n + 1, markT (n + 2)⟩
theorem s_markChunkS (l : List Chunk) (n : Int) (hn : 0 ≤ n ∧ n ≤ 100000000) (hl : l.length ≤ 4000000) : Spec Try.prog 71 1 [(0, .row 3 (l.map Chunk.row))] [.sl 0 0 l.length, .i n] (Named fun r B => r = .i (n + 3 * l.length) ∧ B = .row 3 ((marks markChunk 3 l.length n).map Chunk.row)) := by
  refine Spec.named ?_
  refine mk71 rfl fun c hP hm => ?_
  unfold pc71
  simp only [go_sem, ↓reduceIte]
  refine run_exit 0 (fun t0 => t0 = ⟨[(1, .i (n + 3 * l.length))], [(0, .row 3 ((marks markChunk 3 l.length n).map Chunk.row))], 1, []⟩) ?_ (fun t0 h => by rw [h]; simp only [go_sem, ↓reduceIte]; exact ⟨_, rfl, rfl, rfl⟩)
  refine lp_wpc (α := Nat) (fun i => ⟨[(0, .sl 0 0 l.length), (1, .i (n + 3 * i)), (5, .i i)], [(0, .row 3 ((marks markChunk 3 i n).map Chunk.row ++ (l.drop i).map Chunk.row))], 1, []⟩) (fun i => i ≤ l.length) (fun i => l.length - i) 0 (Nat.zero_le _) (le_eq (by simp [marks])) ?_
  intro i hi
  unfold pc71l0
  rcases Nat.lt_or_ge i l.length with hil | hil
  · have hM : ((marks markChunk 3 i n).map Chunk.row).length = i := by rw [List.length_map, marks_len]
    have hA := congrArg (List.map Chunk.row) (marks_succ markChunk 3 i n)
    rw [List.map_append, List.map_cons, List.map_nil] at hA
    rw [mid_drop hil]
    generalize (marks markChunk 3 i n).map Chunk.row = A at hM hA
    have hBl : ((l.drop (i + 1)).map Chunk.row).length = l.length - (i + 1) := by simp
    generalize hB : (l.drop (i + 1)).map Chunk.row = B at hBl
    simp only [Int.toNat_natCast, mid_get hM, mid_set hM, mid_len, Chunk.row, go_sem, ↓reduceIte]
    simp (disch := omega) only [wrap64]
    intro _
    refine ⟨fun hlt => ?_, fun hge => absurd hge (by omega)⟩
    repeat' refine And.intro ?_ ?_
    all_goals first
      | omega
      | (refine call_pure (hP ▸ s_markText _ (by omega)) rfl rfl ?_
         simp only [Int.toNat_natCast, mid_get hM, mid_set hM, mid_len, go_sem, ↓reduceIte]
         simp (disch := omega) only [wrap64]
         refine ⟨⟨by omega, by omega⟩, by omega, i + 1, hil, by omega, le_ev [] ?_⟩
         rw [hA, hB]
         simp only [hm, markChunk, Chunk.row, List.append_assoc, Int.natCast_add, Int.mul_add, Int.add_assoc, Int.reduceAdd, go_sem, ↓reduceIte]
         rfl)
  · have : i = l.length := by omega
    subst this
    simp only [go_sem, ↓reduceIte]
    exact fun _ => ⟨_, rfl, le_ev [] (by simp only [hm, List.drop_length, go_sem, ↓reduceIte])⟩
end Go.Cap

/- Contracts: marks and equality of packets that hold chunks of their own. -/
namespace Go.Cap
open Go Go.Proofs
set_option maxRecDepth 100000
set_option linter.unusedSimpArgs false
set_option linter.unusedVariables false
attribute [local irreducible] Call Run Spec Le

theorem s_eqPacketS (l : List Packet) : Spec Try.prog 38 0 [] [.r (.ro none (l.map Packet.row)), .r (.ro none (l.map Packet.row))] (fun r _ _ _ => r = .bo true) := by
  refine mk38 rfl fun c hP hm => ?_
  unfold pc38
  simp only [go_sem, ↓reduceIte]
  intro hlen _
  refine lp_wpc (α := Nat) (fun i => ⟨[(0, .r (.ro none (l.map Packet.row))), (1, .r (.ro none (l.map Packet.row))), (5, .i i)], [], 0, []⟩) (fun i => i ≤ l.length) (fun i => l.length - i) 0 (Nat.zero_le _) (Le.refl _) ?_
  intro i hi
  unfold pc38l0
  simp only [go_sem, ↓reduceIte]
  intro _
  intro hlt
  have hil : i < l.length := by omega
  simp only [Int.toNat_natCast, getD_map hil, Packet.row, go_sem, ↓reduceIte]
  refine ⟨⟨by omega, by omega⟩, ⟨by omega, by omega⟩, ?_⟩
  have hq := s_eqPacket l[i]
  unfold Packet.ro at hq
  refine call_pure (hP ▸ hq) rfl rfl ?_
  simp only [go_sem, ↓reduceIte]
  rw [wrap64 (by omega) (by omega)]
  exact ⟨i + 1, hil, by omega, Le.refl _⟩
theorem s_heldChunkS (k : Nat) (n : Int) (hn : 0 ≤ n ∧ n ≤ 100000000) (hk : k ≤ 1000000) : Spec Try.prog 93 0 [] [.r (.ro none ((marks markChunk 3 k n).map Chunk.row)), .i n] (fun r _ _ _ => r = .i (n + 3 * k)) := by
  refine mk93 rfl fun c hP hm => ?_
  unfold pc93
  simp only [go_sem, ↓reduceIte]
  have hlen : (marks markChunk 3 k n).length = k := marks_len ..
  refine lp_wpc (α := Nat) (fun i => ⟨[(0, .r (.ro none ((marks markChunk 3 k n).map Chunk.row))), (1, .i (n + 3 * i)), (5, .i i)], [], 0, []⟩) (fun i => i ≤ k) (fun i => k - i) 0 (Nat.zero_le _) (le_eq (by simp)) ?_
  intro i hi
  unfold pc93l0
  rcases Nat.lt_or_ge i k with hik | hik
  · have hil : i < (marks markChunk 3 k n).length := by omega
    have hg : (marks markChunk 3 k n)[i] = markChunk (n + 3 * i) := by
      have := marks_get markChunk 3 n hik
      rw [List.getElem?_eq_getElem hil] at this
      exact Option.some.inj this
    simp only [Int.toNat_natCast, getD_map hil, hg, hlen, markChunk, Chunk.row, go_sem, ↓reduceIte]
    simp (disch := omega) only [wrap64]
    simp only [Int.add_assoc, Int.reduceAdd, go_sem, ↓reduceIte]
    intro _
    refine ⟨fun hlt => ?_, fun hge => absurd hge (by omega)⟩
    repeat' refine And.intro ?_ ?_
    all_goals first
      | omega
      | (refine call_pure (hP ▸ s_markText _ (by omega)) rfl rfl ?_
         simp only [Int.toNat_natCast, getD_map hil, hg, markChunk, Chunk.row, Int.add_assoc, Int.reduceAdd, go_sem, ↓reduceIte]
         simp (disch := omega) only [wrap64]
         repeat' refine And.intro ?_ ?_
         all_goals first
           | omega
           | exact ⟨i + 1, hik, by omega, le_eq (by simp only [Int.natCast_add, Int.mul_add, Int.add_assoc, Int.reduceAdd]; rfl)⟩)
  · have : i = k := by omega
    subst this
    simp only [hlen, go_sem, ↓reduceIte]
def markPk (n : Int) : Packet := ⟨n, n + 1, n + 2, [markChunk (n + 3)]⟩
theorem marks_one {α : Type} (f : Int → α) (w n : Int) : marks f w 1 n = [f n] := by simp [marks, List.range_succ]
theorem s_heldPacketS (k : Nat) (n : Int) (hn : 0 ≤ n ∧ n ≤ 1000) (hk : k ≤ 1000000) : Spec Try.prog 42 0 [] [.r (.ro none ((marks markPk 6 k n).map Packet.row)), .i n] (fun r _ _ _ => r = .i (n + 6 * k)) := by
  refine mk42 rfl fun c hP hm => ?_
  unfold pc42
  simp only [go_sem, ↓reduceIte]
  have hlen : (marks markPk 6 k n).length = k := marks_len ..
  refine lp_wpc (α := Nat) (fun i => ⟨[(0, .r (.ro none ((marks markPk 6 k n).map Packet.row))), (1, .i (n + 6 * i)), (5, .i i)], [], 0, []⟩) (fun i => i ≤ k) (fun i => k - i) 0 (Nat.zero_le _) (le_eq (by simp)) ?_
  intro i hi
  unfold pc42l0
  rcases Nat.lt_or_ge i k with hik | hik
  · have hil : i < (marks markPk 6 k n).length := by omega
    have hg : (marks markPk 6 k n)[i] = markPk (n + 6 * i) := by
      have := marks_get markPk 6 n hik
      rw [List.getElem?_eq_getElem hil] at this
      exact Option.some.inj this
    have hc := s_heldChunkS 1 (n + 6 * i + 3) (by omega) (by omega)
    rw [marks_one] at hc
    simp only [List.map_cons, List.map_nil, Chunk.row, markChunk] at hc
    simp only [Int.toNat_natCast, getD_map hil, hg, hlen, markPk, Packet.row, markChunk, Chunk.row, List.map_cons, List.map_nil, go_sem, ↓reduceIte]
    simp (disch := omega) only [wrap64]
    repeat' first | refine And.intro ?_ ?_ | intro _
    all_goals first
      | omega
      | (exfalso; omega)
      | (rename_i hx; exact absurd trivial hx)
      | (rw [show n + 6 * (i : Int) + 1 + 1 + 1 = n + 6 * (i : Int) + 3 by omega]
         refine call_pure (hP ▸ hc) rfl rfl ?_
         simp only [hm, go_sem, ↓reduceIte]
         simp (disch := omega) only [wrap64]
         repeat' first | refine And.intro ?_ ?_ | intro _
         all_goals first
           | omega
           | (exfalso; omega)
           | (refine ⟨i + 1, hik, by omega, le_eq ?_⟩
              rw [show n + 6 * (i : Int) + 3 + 3 * 1 = n + 6 * ((i + 1 : Nat) : Int) by omega]
              rfl))
  · have : i = k := by omega
    subst this
    simp only [hlen, go_sem, ↓reduceIte]
/-- Packets in a block of cells, the chunks of each in a block of its own. -/
def nestP (base : Nat) (O : List Packet) : List (Nat × Blk) := nestH base (O.map fun p => (0, 3, p.chunks.map Chunk.row))
theorem hget_nestP (base : Nat) (O : List Packet) (b : Nat) : hget (nestP base O) b = if base ≤ b then (O[b - base]?).map (fun p => .row 3 (p.chunks.map Chunk.row)) else none := by
  unfold nestP
  rw [hget_nestH, List.getElem?_map, Option.map_map]
  rfl
structure Nest (base : Nat) (O : List Packet) (cs : List AV) : Prop where
  c0 : ∀ (i : Nat) p, O[i]? = some p → cs[i * 4]? = some (.i p.fr)
  c1 : ∀ (i : Nat) p, O[i]? = some p → cs[i * 4 + 1]? = some (.i p.to)
  c2 : ∀ (i : Nat) p, O[i]? = some p → cs[i * 4 + 2]? = some (.i p.tag)
  c3 : ∀ (i : Nat) p, O[i]? = some p → cs[i * 4 + 3]? = some (.sl (base + i) 0 p.chunks.length)
theorem Nest.put {base i : Nat} {O : List Packet} {cs : List AV} (h : Nest base O cs) {p p' : Packet} (hi : O[i]? = some p) (hl : p'.chunks.length = p.chunks.length) : Nest base (O.set i p') (((cs.set (i * 4) (.i p'.fr)).set (i * 4 + 1) (.i p'.to)).set (i * 4 + 2) (.i p'.tag)) := by
  have hiO := (List.getElem?_eq_some_iff.1 hi).1
  have b0 := (List.getElem?_eq_some_iff.1 (h.c0 i p hi)).1
  have b1 := (List.getElem?_eq_some_iff.1 (h.c1 i p hi)).1
  have b2 := (List.getElem?_eq_some_iff.1 (h.c2 i p hi)).1
  have key : ∀ (j : Nat) q, (O.set i p')[j]? = some q → (j = i ∧ q = p') ∨ (j ≠ i ∧ O[j]? = some q) := fun j q hq => by
    by_cases e : i = j
    · subst e
      rw [List.getElem?_set_self hiO] at hq
      cases hq
      exact .inl ⟨rfl, rfl⟩
    · rw [List.getElem?_set_ne e] at hq
      exact .inr ⟨fun e' => e e'.symm, hq⟩
  refine ⟨fun j q hq => ?_, fun j q hq => ?_, fun j q hq => ?_, fun j q hq => ?_⟩
  all_goals
    rcases key j q hq with ⟨rfl, rfl⟩ | ⟨hj, hq'⟩
  · rw [List.getElem?_set_ne (by omega), List.getElem?_set_ne (by omega), List.getElem?_set_self b0]
  · rw [List.getElem?_set_ne (by omega), List.getElem?_set_ne (by omega), List.getElem?_set_ne (by omega)]
    exact h.c0 j q hq'
  · rw [List.getElem?_set_ne (by omega), List.getElem?_set_self (by rw [List.length_set]; exact b1)]
  · rw [List.getElem?_set_ne (by omega), List.getElem?_set_ne (by omega), List.getElem?_set_ne (by omega)]
    exact h.c1 j q hq'
  · rw [List.getElem?_set_self (by rw [List.length_set, List.length_set]; exact b2)]
  · rw [List.getElem?_set_ne (by omega), List.getElem?_set_ne (by omega), List.getElem?_set_ne (by omega)]
    exact h.c2 j q hq'
  · rw [List.getElem?_set_ne (by omega), List.getElem?_set_ne (by omega), List.getElem?_set_ne (by omega), hl]
    exact h.c3 j p hi
  · rw [List.getElem?_set_ne (by omega), List.getElem?_set_ne (by omega), List.getElem?_set_ne (by omega)]
    exact h.c3 j q hq'
theorem aget_some {cs : List AV} {i : Nat} {x : AV} (h : cs[i]? = some x) : aget cs i = x := by
  obtain ⟨h1, h2⟩ := List.getElem?_eq_some_iff.1 h
  have := aget_get h1
  rw [h] at this
  exact (Option.some.inj this).symm
theorem s_markPacketS (O : List Packet) (cs : List AV) (n : Int) (hn : 0 ≤ n ∧ n ≤ 1000) (hl : O.length ≤ 1000000) (hO : ∀ p ∈ O, p.chunks.length = 1) (hcs : Nest 1 O cs) : Spec Try.prog 41 (1 + O.length) ((0, .var cs) :: nestP 1 O) [.sl 0 0 O.length, .i n]
    (fun r hp nx gs => ∃ cs', r = .i (n + 6 * O.length) ∧ hp = (0, .var cs') :: nestP 1 (marks markPk 6 O.length n) ∧ nx = 1 + O.length ∧ gs = [] ∧ Nest 1 (marks markPk 6 O.length n) cs') := by
  refine mk41 rfl fun c hP hm => ?_
  unfold pc41
  simp only [go_sem, ↓reduceIte]
  refine run_exit 0 (fun t0 => ∃ cs', Nest 1 (marks markPk 6 O.length n) cs' ∧ t0 = ⟨[(1, .i (n + 6 * O.length))], (0, .var cs') :: nestP 1 (marks markPk 6 O.length n), 1 + O.length, []⟩) ?_ (fun t0 h => by obtain ⟨cs', h1, rfl⟩ := h; simp only [go_sem, ↓reduceIte]; exact ⟨cs', rfl, h1⟩)
  refine lp_wpc (α := Nat × List AV) (fun y => ⟨[(0, .sl 0 0 O.length), (1, .i (n + 6 * y.1)), (5, .i y.1)], (0, .var y.2) :: nestP 1 (marks markPk 6 y.1 n ++ O.drop y.1), 1 + O.length, []⟩)
    (fun y => y.1 ≤ O.length ∧ Nest 1 (marks markPk 6 y.1 n ++ O.drop y.1) y.2) (fun y => O.length - y.1) (0, cs) ⟨Nat.zero_le _, by simpa [marks] using hcs⟩ (le_eq (by simp [marks])) ?_
  rintro ⟨i, cs⟩ ⟨hi, hN⟩
  simp only at hi hN
  unfold pc41l0
  rcases Nat.lt_or_ge i O.length with hil | hil
  · have hw : IntKind.i64.wrap ((i : Int) + 1) = ((i + 1 : Nat) : Int) := by rw [wrap64 (by omega) (by omega)]; omega
    have hw1 : IntKind.i64.wrap (n + 6 * (i : Int) + 1) = n + 6 * (i : Int) + 1 := wrap64 (by omega) (by omega)
    have hw2 : IntKind.i64.wrap (n + 6 * (i : Int) + 1 + 1) = n + 6 * (i : Int) + 2 := by rw [wrap64 (by omega) (by omega)]; omega
    have hw3 : IntKind.i64.wrap (n + 6 * (i : Int) + 2 + 1) = n + 6 * (i : Int) + 3 := by rw [wrap64 (by omega) (by omega)]; omega
    have hml : (marks markPk 6 i n).length = i := marks_len ..
    have hWi : (marks markPk 6 i n ++ O.drop i)[i]? = some O[i] := by
      rw [List.getElem?_append_right (by omega), hml, Nat.sub_self, List.getElem?_drop, Nat.add_zero, List.getElem?_eq_getElem hil]
    have hWs : (marks markPk 6 i n ++ O.drop i).set i (markPk (n + 6 * i)) = marks markPk 6 (i + 1) n ++ O.drop (i + 1) := by
      rw [marks_succ, List.set_append_right _ _ (by omega), hml, Nat.sub_self, List.drop_eq_getElem_cons hil, List.set_cons_zero, List.append_assoc]
      rfl
    have hone := hO _ (List.getElem_mem hil)
    generalize O[i] = p at hWi hone
    generalize marks markPk 6 i n ++ O.drop i = W at hN hWi hWs
    have hN' := hN.put (p' := markPk (n + 6 * i)) hWi (by rw [hone]; rfl)
    rw [hWs] at hN'
    have b0 := (List.getElem?_eq_some_iff.1 (hN.c0 i p hWi)).1
    have b1 := (List.getElem?_eq_some_iff.1 (hN.c1 i p hWi)).1
    have b2 := (List.getElem?_eq_some_iff.1 (hN.c2 i p hWi)).1
    have b3 := (List.getElem?_eq_some_iff.1 (hN.c3 i p hWi)).1
    have hag : aget (((cs.set (i * 4) (.i (n + 6 * i))).set (i * 4 + 1) (.i (n + 6 * i + 1))).set (i * 4 + 2) (.i (n + 6 * i + 2))) (i * 4 + 3) = .sl (1 + i) 0 p.chunks.length := by
      refine aget_some ?_
      rw [List.getElem?_set_ne (by omega), List.getElem?_set_ne (by omega), List.getElem?_set_ne (by omega)]
      exact hN.c3 i p hWi
    have hmc := s_markChunkS p.chunks (n + 6 * i + 3) (by omega) (by omega)
    simp only [hw, hw1, hw2, hw3, Int.toNat_natCast, List.length_set, Nat.add_zero, go_sem, ↓reduceIte]
    intro _
    refine ⟨fun _ => ?_, fun h => absurd h (by omega)⟩
    refine ⟨⟨by omega, by omega⟩, by omega, ⟨by omega, by omega⟩, by omega, ⟨by omega, by omega⟩, by omega, ⟨by omega, by omega⟩, b3, ?_⟩
    rw [hag]
    have hhp : hget ((0, Blk.var (((cs.set (i * 4) (.i (n + 6 * i))).set (i * 4 + 1) (.i (n + 6 * i + 1))).set (i * 4 + 2) (.i (n + 6 * i + 2)))) :: nestP 1 W) (1 + i) = some (.row 3 (p.chunks.map Chunk.row)) := by
      rw [hget_cons, if_neg (by omega), hget_nestP, if_pos (by omega), Nat.add_sub_cancel_left, hWi]
      rfl
    refine call_named (1 + i) (hP ▸ hmc) hhp rfl (by simp only [List.map_cons, List.map_nil, renA, idf_zero]) ?_ ?_
    · rintro r B ⟨rfl, rfl⟩; exact ⟨rfl, rfl⟩
    rintro r B ⟨rfl, rfl⟩
    generalize hH : hdel _ (1 + i) = H
    simp only [hw, go_sem, ↓reduceIte]
    refine ⟨(i + 1, _), ⟨hil, hN'⟩, by simp only; omega, ?_⟩
    refine le_hget ?_ fun b => ?_
    · simp only [go_sem, ↓reduceIte]
      rw [hone]
      exact congrArg AV.i (by omega)
    · rw [← hH, ← hWs]
      have hiW := (List.getElem?_eq_some_iff.1 hWi).1
      rw [hget_cons, hget_cons, hget_hdel, hget_cons, hget_nestP, hget_nestP]
      by_cases h0 : 0 = b
      · subst h0
        have e1 : ¬ (1 + i = 0) := by omega
        have e2 : ¬ (0 = 1 + i) := by omega
        simp only [e1, e2, if_false, if_true]
        rfl
      · have e3 : 1 ≤ b := by omega
        by_cases h1 : 1 + i = b
        · subst h1
          simp only [h0, e3, if_false, if_true, Nat.add_sub_cancel_left, List.getElem?_set_self hiW, hone, marks_one]
          rfl
        · have e4 : ¬ (b = 1 + i) := fun e => h1 e.symm
          simp only [h0, h1, e3, e4, if_false, if_true]
          rw [List.getElem?_set_ne (by omega)]
  · have : i = O.length := by omega
    subst this
    rw [List.drop_length, List.append_nil] at hN ⊢
    simp only [go_sem, ↓reduceIte]
    exact fun _ => ⟨_, ⟨_, hN, rfl⟩, le_hget (by simp only [go_sem, ↓reduceIte]) fun _ => rfl⟩
end Go.Cap

/- Contracts: the program's packets as a law holds them: views, marks. -/
namespace Go.Cap
open Go Go.Proofs
set_option maxRecDepth 100000
set_option linter.unusedSimpArgs false
set_option linter.unusedVariables false
attribute [local irreducible] Call Run Spec Le

theorem nestH_congr : ∀ {N N' : List (Nat × Nat × List (List RV))} (base : Nat), N.map (·.2) = N'.map (·.2) → nestH base N = nestH base N'
  | [], [], base, _ => rfl
  | [], _ :: _, base, h => by simp at h
  | _ :: _, [], base, h => by simp at h
  | p :: l, p' :: l', base, h => by
    simp only [List.map_cons, List.cons.injEq] at h
    simp only [nestH, h.1, nestH_congr (base + 1) h.2]
/-- The cells are numbers, or lead to one of the blocks. -/
def Forms (base : Nat) (n : Nat) (cs : List AV) : Prop := ∀ c ∈ cs, (∃ x, closR x = true ∧ c = .r x) ∨ ∃ k m, k < n ∧ c = .sl (base + k) 0 m
theorem nest_of_thaw {O : List (Packet × Nat)} {cs : List AV} (h : Thaw 4 (O.map rowG) (O.map fun x => (x.2, 3, x.1.chunks.map Chunk.row)) cs) : Nest 1 (O.map (·.1)) cs ∧ Forms 1 O.length cs := by
  have key : ∀ (i : Nat) p, (O.map (·.1))[i]? = some p → ∃ g, O[i]? = some (p, g) := fun i p hp => by
    rw [List.getElem?_map] at hp
    cases hi : O[i]? with
    | none => rw [hi] at hp; cases hp
    | some x => rw [hi] at hp; cases hp; exact ⟨x.2, rfl⟩
  have row : ∀ (i j : Nat) p g, O[i]? = some (p, g) → ((O.map rowG)[i]?).bind (·[j]?) = (rowG (p, g))[j]? := fun i j p g hg => by
    rw [List.getElem?_map, hg]; rfl
  refine ⟨⟨fun i p hp => ?_, fun i p hp => ?_, fun i p hp => ?_, fun i p hp => ?_⟩, fun c hc => ?_⟩
  · obtain ⟨g, hg⟩ := key i p hp
    exact h.cell i 0 _ (by rw [row i 0 p g hg]; rfl) rfl
  · obtain ⟨g, hg⟩ := key i p hp
    exact h.cell i 1 _ (by rw [row i 1 p g hg]; rfl) rfl
  · obtain ⟨g, hg⟩ := key i p hp
    exact h.cell i 2 _ (by rw [row i 2 p g hg]; rfl) rfl
  · obtain ⟨g, hg⟩ := key i p hp
    have := h.nest i 3 i (g, 3, p.chunks.map Chunk.row) (by rw [List.getElem?_map, hg]; rfl) (by rw [row i 3 p g hg]; rfl)
    rw [this, List.length_map]
  · rcases h.form c hc with h1 | ⟨k, p, h1, h2⟩
    · exact .inl h1
    · refine .inr ⟨k, p.2.2.length, ?_, h2⟩
      have := (List.getElem?_eq_some_iff.1 h1).1
      simpa using this
def TPkQ (pk : List Packet) : AV → List (Nat × Blk) → Nat → List Nat → Prop := fun r hp nx gs => ∃ cs, Nest 1 pk cs ∧ Forms 1 pk.length cs ∧ r = .sl 0 0 pk.length ∧ hp = (0, .var cs) :: nestP 1 pk ∧ nx = 1 + pk.length ∧ gs = []
theorem s_implTalkPacketsT (t : Talk) (hl : t.says.length ≤ 1048576) (hx : ∀ s ∈ t.says, s.text.length ≤ 1048576) (hv : talkB t = true) : Spec Try.prog 37 0 [] [t.ro] (TPkQ (talkPk t)) := by
  have hch : ∀ p ∈ talkPk t, p.chunks.length = 1 := fun p hp => by
    obtain ⟨i, hi, rfl⟩ := List.getElem_of_mem hp
    exact (talkPk_props hv hi).2.1
  have hne : talkPk t ≠ [] := fun e => by
    obtain ⟨rest, hr, _⟩ := talkPk_cons hv
    rw [e] at hr; cases hr
  refine Spec.le (Spec.thaw (sz := 4) (R := fun L N => ∃ O : List (Packet × Nat), O.map (·.1) = talkPk t ∧ L = O.map rowG ∧ N = O.map fun x => (x.2, 3, x.1.chunks.map Chunk.row)) (s_implTalkPacketsG t hl hx hv) ?_) ?_
  · rintro r hp nx gs ⟨b, O, hO, rfl, hb, rfl⟩
    refine ⟨b, O.map rowG, O.map fun x => (x.2, 3, x.1.chunks.map Chunk.row), by rw [List.length_map], hb, by rw [List.map_map]; rfl, fun e => ?_, fun p hp => ?_, fun i j x hx => ?_, O, hO, rfl, rfl⟩
    · rw [List.map_eq_nil_iff] at e
      rw [e] at hO
      exact hne hO.symm
    · obtain ⟨x, hx, rfl⟩ := List.mem_map.1 hp
      have hc1 := hch x.1 (by rw [← hO]; exact List.mem_map.2 ⟨x, hx, rfl⟩)
      refine ⟨Nat.zero_lt_succ 2, chunkClosed _, fun e => ?_, fun r hr => ?_, ?_⟩
      · rw [List.map_eq_nil_iff] at e
        rw [e] at hc1; cases hc1
      · obtain ⟨c, _, rfl⟩ := List.mem_map.1 hr; rfl
      · obtain ⟨i, hi⟩ := List.getElem?_of_mem hx
        exact ⟨i, 3, by rw [List.getElem?_map, hi]; rfl⟩
    · rw [List.getElem?_map] at hx
      cases hi : O[i]? with
      | none => rw [hi] at hx; cases hx
      | some y =>
        rw [hi] at hx
        have hx' : (rowG y)[j]? = some x := hx
        have hm := List.mem_of_getElem? hx'
        simp only [rowG, List.mem_cons, List.not_mem_nil, or_false] at hm
        rcases hm with rfl | rfl | rfl | rfl
        · exact .inl rfl
        · exact .inl rfl
        · exact .inl rfl
        · exact .inr ⟨_, List.mem_map.2 ⟨y, List.mem_of_getElem? hi, rfl⟩, rfl⟩
  · rintro r hp nx gs ⟨L, N, cs, ⟨O, hO, rfl, rfl⟩, hth, rfl, rfl, rfl, rfl⟩
    obtain ⟨h1, h2⟩ := nest_of_thaw hth
    have hlen : O.length = (talkPk t).length := by rw [← hO, List.length_map]
    rw [hO] at h1
    rw [hlen] at h2
    refine ⟨_, _, _, _, ⟨cs, h1, h2, rfl, rfl, rfl, rfl⟩, fun c hc => ?_⟩
    refine le_eq ?_
    rw [List.length_map, List.length_map, hlen]
    have : nestH 1 (O.map fun x => (x.2, 3, x.1.chunks.map Chunk.row)) = nestP 1 (talkPk t) := by
      unfold nestP
      refine nestH_congr 1 ?_
      rw [← hO]
      simp only [List.map_map]
      rfl
    rw [this]
end Go.Cap

/- Contracts: calls with packets that hold chunks of their own. -/
namespace Go.Cap
open Go Go.Proofs
set_option maxRecDepth 100000
set_option linter.unusedSimpArgs false
set_option linter.unusedVariables false
attribute [local irreducible] Call Run Spec Le

theorem renH_nestH (a : Nat) : ∀ (base : Nat) (N : List (Nat × Nat × List (List RV))), renH (a + ·) (nestH base N) = nestH (a + base) N
  | base, [] => rfl
  | base, p :: l => by
    have := renH_nestH a (base + 1) l
    unfold renH at this ⊢
    simp only [nestH, List.map_cons, this]
    rfl
theorem renH_nestP (a base : Nat) (O : List Packet) : renH (a + ·) (nestP base O) = nestP (a + base) O := renH_nestH a base _
theorem Nest.ren {a base : Nat} {O : List Packet} {cs : List AV} (h : Nest base O cs) : Nest (a + base) O (renA.renL (a + ·) cs) := by
  rw [renL_eq]
  refine ⟨fun i p hp => ?_, fun i p hp => ?_, fun i p hp => ?_, fun i p hp => ?_⟩ <;> rw [List.getElem?_map]
  · rw [h.c0 i p hp]; rfl
  · rw [h.c1 i p hp]; rfl
  · rw [h.c2 i p hp]; rfl
  · rw [h.c3 i p hp]
    show some (AV.sl (a + (base + i)) 0 p.chunks.length) = _
    rw [Nat.add_assoc]
theorem Forms.ren {a base n : Nat} {cs : List AV} (h : Forms base n cs) : Forms (a + base) n (renA.renL (a + ·) cs) := fun c hc => by
  rw [renL_eq] at hc
  obtain ⟨d, hd, rfl⟩ := List.mem_map.1 hc
  rcases h d hd with ⟨x, h1, rfl⟩ | ⟨k, m, h1, rfl⟩
  · exact .inl ⟨x, h1, rfl⟩
  · refine .inr ⟨k, m, h1, ?_⟩
    show AV.sl (a + (base + k)) 0 m = _
    rw [Nat.add_assoc]
theorem Forms.clos {base n : Nat} {cs : List AV} (h : Forms base n cs) : closA.closL cs = true := closL_of fun c hc => by
  rcases h c hc with ⟨x, h1, rfl⟩ | ⟨k, m, _, rfl⟩
  · exact h1
  · rfl
theorem mem_nestH : ∀ {base : Nat} {N : List (Nat × Nat × List (List RV))} {p : Nat × Blk}, p ∈ nestH base N → ∃ q ∈ N, p.2 = .row q.2.1 q.2.2
  | base, q :: l, p, h => by
    simp only [nestH, List.mem_cons] at h
    rcases h with rfl | h
    · exact ⟨q, List.mem_cons_self .., rfl⟩
    · obtain ⟨q', h1, h2⟩ := mem_nestH h
      exact ⟨q', List.mem_cons_of_mem _ h1, h2⟩
theorem nestP_clos {base : Nat} {O : List Packet} {p : Nat × Blk} (h : p ∈ nestP base O) : closB p.2 := by
  obtain ⟨q, hq, e⟩ := mem_nestH h
  obtain ⟨x, _, rfl⟩ := List.mem_map.1 hq
  rw [e]
  exact chunkClosed x.chunks
/-- The program's packets, as a law holds them. -/
theorem c_talkPackets {c : Cx} (hP : c.P = Try.prog) {s : St} {args : List AV} {K : AV → St → Prop} (t : Talk) (hl : t.says.length ≤ 1048576) (hx : ∀ s ∈ t.says, s.text.length ≤ 1048576) (hv : talkB t = true) (ha : Vws s.hp args [t.ro])
    (hK : ∀ cs, Nest (s.nx + 1) (talkPk t) cs → Forms (s.nx + 1) (talkPk t).length cs → K (.sl s.nx 0 (talkPk t).length) ⟨s.sl, (s.nx, .var cs) :: (nestP (s.nx + 1) (talkPk t) ++ s.hp), s.nx + (1 + (talkPk t).length), s.gs⟩) : Call c 37 args s K :=
  call_cl (hP ▸ s_implTalkPacketsT t hl hx hv) ha.spec fun r hp nx gs hQ => by
    obtain ⟨cs, h1, h2, rfl, rfl, rfl, rfl⟩ := hQ
    refine ⟨⟨rfl, fun p hp => ?_⟩, ?_⟩
    · rcases List.mem_cons.1 hp with rfl | hp
      · exact h2.clos
      · exact nestP_clos hp
    · have := hK (renA.renL (s.nx + ·) cs) h1.ren h2.ren
      rw [← renH_nestP] at this
      exact this
/-- How a law that only reads sees them. -/
theorem vw_nest {hp : List (Nat × Blk)} {b base : Nat} {O : List Packet} {cs : List AV} (hb : hget hp b = some (.var cs)) (hn : Nest base O cs) (hr : ∀ (i : Nat) p, O[i]? = some p → hget hp (base + i) = some (.row 3 (p.chunks.map Chunk.row))) : Vw hp (.sl b 0 O.length) (.r (.ro none (O.map Packet.row))) := by
  have hrow : ∀ (i j : Nat) x, ((O.map Packet.row)[i]?).bind (·[j]?) = some x → ∃ p, O[i]? = some p ∧ ((j = 0 ∧ x = .n .i64 p.fr) ∨ (j = 1 ∧ x = .n .i64 p.to) ∨ (j = 2 ∧ x = .n .i64 p.tag) ∨ (j = 3 ∧ x = .ro none (p.chunks.map Chunk.row))) := fun i j x hx => by
    rw [List.getElem?_map] at hx
    cases hi : O[i]? with
    | none => rw [hi] at hx; cases hx
    | some p =>
      rw [hi] at hx
      have hx' : (Packet.row p)[j]? = some x := hx
      refine ⟨p, rfl, ?_⟩
      rcases j with _ | _ | _ | _ | j
      · cases hx'; exact .inl ⟨rfl, rfl⟩
      · cases hx'; exact .inr (.inl ⟨rfl, rfl⟩)
      · cases hx'; exact .inr (.inr (.inl ⟨rfl, rfl⟩))
      · cases hx'; exact .inr (.inr (.inr ⟨rfl, rfl⟩))
      · cases hx'
  have := Vw.nest (hp := hp) b 4 cs (O.map Packet.row) (fun i j => (cs[i * 4 + j]?).getD .junk) hb (fun r hr => by obtain ⟨p, _, rfl⟩ := List.mem_map.1 hr; rfl) (fun i j x hx => ?_) (fun i j x hx => ?_)
  · rw [List.length_map] at this; exact this
  · obtain ⟨p, hp, h⟩ := hrow i j x hx
    rcases h with ⟨rfl, rfl⟩ | ⟨rfl, rfl⟩ | ⟨rfl, rfl⟩ | ⟨rfl, rfl⟩
    · simp only [Nat.add_zero, hn.c0 i p hp, Option.getD_some]
    · simp only [hn.c1 i p hp, Option.getD_some]
    · simp only [hn.c2 i p hp, Option.getD_some]
    · simp only [hn.c3 i p hp, Option.getD_some]
  · obtain ⟨p, hp, h⟩ := hrow i j x hx
    rcases h with ⟨rfl, rfl⟩ | ⟨rfl, rfl⟩ | ⟨rfl, rfl⟩ | ⟨rfl, rfl⟩
    · simp only [Nat.add_zero, hn.c0 i p hp, Option.getD_some]; exact .r _
    · simp only [hn.c1 i p hp, Option.getD_some]; exact .r _
    · simp only [hn.c2 i p hp, Option.getD_some]; exact .r _
    · simp only [hn.c3 i p hp, Option.getD_some]
      exact Vw.full (hr i p hp) (by simp)
/-- Numbers one behind the other. -/
def rng : Nat → Nat → List Nat
  | _, 0 => []
  | b, n + 1 => b :: rng (b + 1) n
theorem rng_len : ∀ (b n : Nat), (rng b n).length = n
  | _, 0 => rfl
  | b, n + 1 => by simp only [rng, List.length_cons, rng_len (b + 1) n]
theorem mem_rng : ∀ {b n x : Nat}, x ∈ rng b n ↔ b ≤ x ∧ x < b + n
  | b, 0, x => by simp [rng]
  | b, n + 1, x => by simp only [rng, List.mem_cons, mem_rng (b := b + 1)]; omega
theorem rng_nodup : ∀ (b n : Nat), (rng b n).Nodup
  | _, 0 => List.nodup_nil
  | b, n + 1 => List.nodup_cons.2 ⟨fun h => by have := (mem_rng.1 h).1; omega, rng_nodup (b + 1) n⟩
theorem idf_rng : ∀ {b n nx j : Nat}, j < n → idf (rng b n) nx j = b + j
  | b, n + 1, nx, 0, _ => rfl
  | b, n + 1, nx, j + 1, h => by
    show idf (rng (b + 1) n) nx j = _
    rw [idf_rng (by omega)]; omega
/-- The numbers of a law's packets, as the function that marks them counts. -/
def back (b : Nat) : AV → AV
  | .sl q st m => .sl (q - b) st m
  | x => x
theorem Nest.back {b : Nat} {O : List Packet} {cs : List AV} (h : Nest (b + 1) O cs) : Nest 1 O (cs.map (back b)) := by
  refine ⟨fun i p hp => ?_, fun i p hp => ?_, fun i p hp => ?_, fun i p hp => ?_⟩ <;> rw [List.getElem?_map]
  · rw [h.c0 i p hp]; rfl
  · rw [h.c1 i p hp]; rfl
  · rw [h.c2 i p hp]; rfl
  · rw [h.c3 i p hp]
    show some (AV.sl (b + 1 + i - b) 0 p.chunks.length) = _
    rw [show b + 1 + i - b = 1 + i by omega]
theorem Forms.back {b n nx : Nat} {cs : List AV} (h : Forms (b + 1) n cs) : renA.renL (idf (rng b (1 + n)) nx) (cs.map (back b)) = cs := by
  rw [renL_eq, List.map_map]
  conv => rhs; rw [← List.map_id cs]
  refine List.map_congr_left fun c hc => ?_
  rcases h c hc with ⟨x, h1, rfl⟩ | ⟨k, m, h1, rfl⟩
  · rfl
  · show AV.sl (idf (rng b (1 + n)) nx (b + 1 + k - b)) 0 m = AV.sl (b + 1 + k) 0 m
    rw [show b + 1 + k - b = 1 + k by omega, idf_rng (by omega), Nat.add_assoc]
theorem hget_map_row {f : Nat → Nat} {base n : Nat} {N : List (Nat × Nat × List (List RV))} (hf : ∀ i, i < n → f (base + i) = f base + i) : ∀ (k : Nat) (l : List (Nat × Nat × List (List RV))), k + l.length = n → renH f (nestH (base + k) l) = nestH (f base + k) l
  | k, [], _ => rfl
  | k, p :: l, h => by
    have := hget_map_row (N := N) hf (k + 1) l (by simp at h; omega)
    unfold renH at this ⊢
    simp only [nestH, List.map_cons]
    rw [show base + k + 1 = base + (k + 1) by omega, this, hf k (by simp at h; omega)]
    rfl
theorem mem_nestH_at : ∀ {base : Nat} {N : List (Nat × Nat × List (List RV))} {p : Nat × Blk}, p ∈ nestH base N → ∃ (i : Nat) (q : Nat × Nat × List (List RV)), N[i]? = some q ∧ p = (base + i, .row q.2.1 q.2.2)
  | base, q :: l, p, h => by
    simp only [nestH, List.mem_cons] at h
    rcases h with rfl | h
    · exact ⟨0, q, rfl, rfl⟩
    · obtain ⟨i, q', h1, h2⟩ := mem_nestH_at h
      exact ⟨i + 1, q', h1, by rw [h2, show base + 1 + i = base + (i + 1) by omega]⟩
theorem nestH_mem : ∀ {base i : Nat} {N : List (Nat × Nat × List (List RV))} {q : Nat × Nat × List (List RV)}, N[i]? = some q → (base + i, Blk.row q.2.1 q.2.2) ∈ nestH base N
  | base, 0, q' :: l, q, h => by cases h; exact List.mem_cons_self ..
  | base, i + 1, q' :: l, q, h => by
    have := nestH_mem (base := base + 1) (i := i) (N := l) (q := q) h
    rw [show base + 1 + i = base + (i + 1) by omega] at this
    exact List.mem_cons_of_mem _ this
theorem Nest.renF {base base' : Nat} {f : Nat → Nat} {O : List Packet} {cs : List AV} (h : Nest base O cs) (hf : ∀ i, i < O.length → f (base + i) = base' + i) : Nest base' O (renA.renL f cs) := by
  rw [renL_eq]
  refine ⟨fun i p hp => ?_, fun i p hp => ?_, fun i p hp => ?_, fun i p hp => ?_⟩ <;> rw [List.getElem?_map]
  · rw [h.c0 i p hp]; rfl
  · rw [h.c1 i p hp]; rfl
  · rw [h.c2 i p hp]; rfl
  · rw [h.c3 i p hp]
    show some (AV.sl (f (base + i)) 0 p.chunks.length) = _
    rw [hf i (List.getElem?_eq_some_iff.1 hp).1]
theorem c_markPacketS {c : Cx} (hP : c.P = Try.prog) {s : St} {K : AV → St → Prop} (b : Nat) (O : List Packet) (cs : List AV) (n : Int) (hn : 0 ≤ n ∧ n ≤ 1000) (hl : O.length ≤ 1000000) (hO : ∀ p ∈ O, p.chunks.length = 1)
    (hb : hget s.hp b = some (.var cs)) (hr : ∀ (i : Nat) p, O[i]? = some p → hget s.hp (b + 1 + i) = some (.row 3 (p.chunks.map Chunk.row))) (hN : Nest (b + 1) O cs) (hF : Forms (b + 1) O.length cs)
    (hK : ∀ cs' hp', Nest (b + 1) (marks markPk 6 O.length n) cs' → (∀ q, hget hp' q = if b ≤ q ∧ q < b + (1 + O.length) then hget ((b, Blk.var cs') :: nestP (b + 1) (marks markPk 6 O.length n)) q else hget s.hp q) → K (.i (n + 6 * O.length)) ⟨s.sl, hp', s.nx, s.gs⟩) :
    Call c 41 [.sl b 0 O.length, .i n] s K := by
  have hs : Spec c.P 41 (rng b (1 + O.length)).length ((0, .var (cs.map (back b))) :: nestP 1 O) [.sl 0 0 O.length, .i n]
      (fun r hp nx gs => ∃ cs', r = .i (n + 6 * O.length) ∧ hp = (0, .var cs') :: nestP 1 (marks markPk 6 O.length n) ∧ nx = 1 + O.length ∧ gs = [] ∧ Nest 1 (marks markPk 6 O.length n) cs') := by
    rw [rng_len]; exact hP ▸ s_markPacketS O _ n hn hl hO hN.back
  refine call_spec (rng b (1 + O.length)) hs (rng_nodup _ _) ?_ ?_ ?_ fun r hp' nx' gs' h => ?_
  · intro p hp
    rw [rng_len]
    rcases List.mem_cons.1 hp with rfl | hp
    · refine ⟨by omega, ?_⟩
      show hget s.hp (idf (rng b (1 + O.length)) s.nx 0) = some (.var (renA.renL _ (cs.map (back b))))
      rw [idf_rng (by omega), hF.back]
      exact hb
    · obtain ⟨i, q, h1, rfl⟩ := mem_nestH_at hp
      rw [List.getElem?_map] at h1
      cases hi : O[i]? with
      | none => rw [hi] at h1; cases h1
      | some x =>
        rw [hi] at h1; cases h1
        have hil := (List.getElem?_eq_some_iff.1 hi).1
        refine ⟨by simp only; omega, ?_⟩
        simp only
        rw [idf_rng (by omega), show b + (1 + i) = b + 1 + i by omega, hr i x hi]
        rfl
  · intro j hj
    rw [rng_len] at hj
    rcases j with _ | j
    · exact ⟨_, List.mem_cons_self ..⟩
    · have hj' : j < O.length := by omega
      have := nestH_mem (base := 1) (i := j) (N := O.map fun p => (0, 3, p.chunks.map Chunk.row)) (q := (0, 3, O[j].chunks.map Chunk.row)) (by rw [List.getElem?_map, List.getElem?_eq_getElem hj']; rfl)
      rw [Nat.add_comm 1 j] at this
      exact ⟨_, List.mem_cons_of_mem _ this⟩
  · simp only [List.map_cons, List.map_nil, renA]
    rw [idf_rng (by omega)]
    rfl
  · obtain ⟨cs', rfl, rfl, rfl, rfl, h5⟩ := h
    have hml : (marks markPk 6 O.length n).length = O.length := marks_len ..
    have hf : ∀ i, i < O.length → idf (rng b (1 + O.length)) s.nx (1 + i) = b + 1 + i := fun i hi => by rw [idf_rng (by omega)]; omega
    have hren : renH (idf (rng b (1 + O.length)) s.nx) ((0, .var cs') :: nestP 1 (marks markPk 6 O.length n)) = (b, .var (renA.renL (idf (rng b (1 + O.length)) s.nx) cs')) :: nestP (b + 1) (marks markPk 6 O.length n) := by
      rcases Nat.eq_zero_or_pos O.length with h0 | h0
      · have : marks markPk 6 O.length n = [] := by rw [← List.length_eq_zero_iff, hml, h0]
        rw [this]
        show [(idf (rng b (1 + O.length)) s.nx 0, _)] = _
        rw [idf_rng (by omega)]
        rfl
      · have h1 := hf 0 h0
        have := hget_map_row (f := idf (rng b (1 + O.length)) s.nx) (base := 1) (n := O.length) (N := []) (fun i hi => by rw [hf i hi, hf 0 h0]) 0 ((marks markPk 6 O.length n).map fun p => (0, 3, p.chunks.map Chunk.row)) (by rw [List.length_map, hml]; omega)
        simp only [Nat.add_zero] at this h1
        rw [h1] at this
        show (idf (rng b (1 + O.length)) s.nx 0, _) :: renH _ (nestP 1 (marks markPk 6 O.length n)) = _
        rw [idf_rng (by omega)]
        unfold nestP
        rw [this]
        rfl
    have := hK (renA.renL (idf (rng b (1 + O.length)) s.nx) cs') (renH (idf (rng b (1 + O.length)) s.nx) ((0, .var cs') :: nestP 1 (marks markPk 6 O.length n)) ++ hdels (rng b (1 + O.length)) s.hp) (h5.renF (by rw [hml]; exact hf)) fun q => ?_
    · rw [rng_len, Nat.sub_self]
      exact this
    · rw [hren, hget_append, hget_hdels]
      by_cases hq : b ≤ q ∧ q < b + (1 + O.length)
      · rw [if_pos (mem_rng.2 hq), if_pos hq]
        cases hget ((b, Blk.var (renA.renL (idf (rng b (1 + O.length)) s.nx) cs')) :: nestP (b + 1) (marks markPk 6 O.length n)) q <;> rfl
      · rw [if_neg (fun h => hq (mem_rng.1 h)), if_neg hq, hget_cons, if_neg (by omega), hget_nestP]
        by_cases hq2 : b + 1 ≤ q
        · rw [if_pos hq2, List.getElem?_eq_none (by rw [hml]; omega)]
          rfl
        · rw [if_neg hq2]
theorem hdel_nestH : ∀ {base q : Nat} {N : List (Nat × Nat × List (List RV))}, q < base → hdel (nestH base N) q = nestH base N
  | _, _, [], _ => rfl
  | base, q, p :: l, h => by
    simp only [nestH, hdel]
    rw [if_neg (by omega), hdel_nestH (by omega)]
theorem hdel_nestP {base q : Nat} {O : List Packet} (h : q < base) : hdel (nestP base O) q = nestP base O := hdel_nestH h
def idsLt (b : Nat) : List (Nat × Blk) → Bool
  | [] => true
  | p :: l => Nat.blt p.1 b && idsLt b l
theorem idsLt_hget {b q : Nat} : ∀ {C : List (Nat × Blk)} {x : Blk}, idsLt b C = true → hget C q = some x → q < b
  | p :: l, x, h, hx => by
    simp only [idsLt, Bool.and_eq_true] at h
    simp only [hget] at hx
    split at hx
    · rename_i e; rw [← e]; exact Nat.le_of_ble_eq_true h.1
    · exact idsLt_hget h.2 hx
theorem idsLt_none {b q : Nat} {C : List (Nat × Blk)} (h : idsLt b C = true) (hq : b ≤ q) : hget C q = none := by
  cases hx : hget C q with
  | none => rfl
  | some x => have := idsLt_hget h hx; omega
theorem nest_lt {b q : Nat} {v : Blk} {O : List Packet} (h : q < b) : hget ((b, v) :: nestP (b + 1) O) q = none := by
  rw [hget_cons, if_neg (by omega), hget_nestP, if_neg (by omega)]
theorem nest_end {b q : Nat} {v x : Blk} {O : List Packet} (h : hget ((b, v) :: nestP (b + 1) O) q = some x) : b ≤ q ∧ q < b + (1 + O.length) := by
  rw [hget_cons] at h
  split at h
  · omega
  · rw [hget_nestP] at h
    split at h
    · cases hi : O[q - (b + 1)]? with
      | none => rw [hi] at h; cases h
      | some y => have := (List.getElem?_eq_some_iff.1 hi).1; omega
    · cases h
/-- The blocks of the packets stand last. -/
theorem nest_last {C : List (Nat × Blk)} {b : Nat} {v : Blk} {O : List Packet} (hC : idsLt b C = true) (q : Nat) (x : Blk) (h : hget (C ++ (b, v) :: nestP (b + 1) O) q = some x) : hget ((b, v) :: (nestP (b + 1) O ++ C)) q = some x := by
  rw [hget_append] at h
  rw [← List.cons_append, hget_append]
  cases hc : hget C q with
  | some y =>
    rw [hc] at h
    rw [nest_lt (idsLt_hget hC hc)]
    exact h
  | none =>
    rw [hc] at h
    have h' : hget ((b, v) :: nestP (b + 1) O) q = some x := h
    rw [h']
theorem nest_at {C : List (Nat × Blk)} {b : Nat} {v : Blk} {O : List Packet} (hC : idsLt b C = true) (i : Nat) (p : Packet) (hp : O[i]? = some p) : hget (C ++ (b, v) :: nestP (b + 1) O) (b + 1 + i) = some (.row 3 (p.chunks.map Chunk.row)) := by
  rw [hget_append, idsLt_none hC (by omega)]
  show hget ((b, v) :: nestP (b + 1) O) (b + 1 + i) = _
  rw [hget_cons, if_neg (by omega), hget_nestP, if_pos (by omega), Nat.add_sub_cancel_left, hp]
  rfl
theorem nest_marked {C hp' : List (Nat × Blk)} {b n : Nat} {v v' : Blk} {O M : List Packet} (hC : idsLt b C = true) (hM : M.length = n) (h : ∀ q, hget hp' q = if b ≤ q ∧ q < b + (1 + n) then hget ((b, v') :: nestP (b + 1) M) q else hget (C ++ (b, v) :: nestP (b + 1) O) q) (q : Nat) (x : Blk) (hx : hget (C ++ (b, v') :: nestP (b + 1) M) q = some x) : hget hp' q = some x := by
  rw [hget_append] at hx
  rw [h q]
  cases hc : hget C q with
  | some y =>
    rw [hc] at hx
    have := idsLt_hget hC hc
    rw [if_neg (by omega), hget_append, hc]
    exact hx
  | none =>
    rw [hc] at hx
    have h' : hget ((b, v') :: nestP (b + 1) M) q = some x := hx
    have := nest_end h'
    rw [hM] at this
    rw [if_pos this, h']
end Go.Cap
