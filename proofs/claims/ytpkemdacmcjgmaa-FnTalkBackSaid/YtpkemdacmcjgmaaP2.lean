import Derived.Test.YtpkemdacmcjgmaaP1
import Derived.Test.YtpkemdacmcjgmaaM2
import Derived.Test.YtpkemdacmcjgmaaEngC
/- Contracts: the program's parts. -/
namespace Go.Cap
open Go Go.Proofs
set_option maxRecDepth 100000
set_option linter.unusedSimpArgs false
set_option linter.unusedVariables false
attribute [local irreducible] Call Run Spec Le

@[go_sem] theorem cnts_len (f g : List Data) : (cnts f g).length = 8 := (rfl)
/-- The inner loop: the parts of one message. -/
theorem loop_partsOf0 {c : Cx} (hP : c.P = Try.prog) (hm : c.m = 0) (t : Talk) (z : Nat) (hz : t.size = z) (hz1 : 1 ≤ z ∧ z ≤ 20) (s : Say) (q1 : 1 ≤ s.text.length) (q2 : s.text.length ≤ 60) (i nout : Nat) (hi : i ≤ 4) (f0 : Int) (hf0 : 0 ≤ f0 ∧ f0 < 65536) (fl : List Data) (hfl : fl.length ≤ 1000)
    (side : Nat) (hside : side < 2) (ts : Int → List RV) (hts : ∀ v, (ts v).length = 2 ∧ aget ((ts v).map .r) side = .i v ∧ (∀ u, ((ts v).map AV.r).set side (.i u) = (ts u).map .r)) (nx3 : List RV) (out : List (List RV)) {n r : St → Prop} {x : Nat → St → Prop}
    (hx : x 2 ⟨[(1, .ptr 0 0 0), (3, .sl 1 0 nout), (4, .ptr 2 0 0), (5, .ptr 3 0 0), (10, .r (.ro none ((nextParts z f0 fl s).map (tpRow s.byB)))), (23, .r (.ro none (t.says.map Say.row))), (24, .i t.says.length), (25, .i i)],
      [(3, .var (nx3.map .r)), (2, .var ((ts (l3 f0 ((fl.length + (nextParts z f0 fl s).length : Nat) : Int))).map .r)), (1, .row 1 out), (0, .var [.i t.fr, .i t.to, .i t.a.tag, .i t.a.window, .i t.a.streams, .i t.a.tsn, .i t.b.tag, .i t.b.window, .i t.b.streams, .i t.b.tsn, .i t.size, .r (.ro none (t.says.map Say.row))])], 4, []⟩) :
    Run c (.lp pc59l0) ⟨[(1, .ptr 0 0 0), (3, .sl 1 0 nout), (4, .ptr 2 0 0), (5, .ptr 3 0 0), (7, .ptr 4 0 0), (8, .i side), (9, .i (ssnOf fl s)), (10, .sl 5 0 0), (11, .i 0), (23, .r (.ro none (t.says.map Say.row))), (24, .i t.says.length), (25, .i i)],
      [(5, .row 8 []), (4, .var [.bo s.byB, .i s.stream, .bo s.loose, .st s.text]), (3, .var (nx3.map .r)), (2, .var ((ts (l3 f0 (fl.length : Int))).map .r)), (1, .row 1 out), (0, .var [.i t.fr, .i t.to, .i t.a.tag, .i t.a.window, .i t.a.streams, .i t.a.tsn, .i t.b.tag, .i t.b.window, .i t.b.streams, .i t.b.tsn, .i t.size, .r (.ro none (t.says.map Say.row))])], 6, []⟩ n x r := by
  have hml := many_le2 (n := s.text.length) hz1.1
  have hnl : (nextParts z f0 fl s).length = manyN s.text.length z := nextParts_len _ _ _ _
  refine run_exit 2 (fun t0 => t0 = ⟨[(1, .ptr 0 0 0), (3, .sl 1 0 nout), (4, .ptr 2 0 0), (5, .ptr 3 0 0), (10, .r (.ro none ((nextParts z f0 fl s).map (tpRow s.byB)))), (23, .r (.ro none (t.says.map Say.row))), (24, .i t.says.length), (25, .i i)],
      [(3, .var (nx3.map .r)), (2, .var ((ts (l3 f0 ((fl.length + (nextParts z f0 fl s).length : Nat) : Int))).map .r)), (1, .row 1 out), (0, .var [.i t.fr, .i t.to, .i t.a.tag, .i t.a.window, .i t.a.streams, .i t.a.tsn, .i t.b.tag, .i t.b.window, .i t.b.streams, .i t.b.tsn, .i t.size, .r (.ro none (t.says.map Say.row))])], 4, []⟩) ?_ (fun t0 h => by rw [h]; exact hx)
  refine lp_wpc (α := Nat) (fun j => ⟨[(1, .ptr 0 0 0), (3, .sl 1 0 nout), (4, .ptr 2 0 0), (5, .ptr 3 0 0), (7, .ptr 4 0 0), (8, .i side), (9, .i (ssnOf fl s)), (10, .sl 5 0 j), (11, .i (j * z : Nat)), (23, .r (.ro none (t.says.map Say.row))), (24, .i t.says.length), (25, .i i)],
      [(5, .row 8 (((nextParts z f0 fl s).take j).map (tpRow s.byB))), (4, .var [.bo s.byB, .i s.stream, .bo s.loose, .st s.text]), (3, .var (nx3.map .r)), (2, .var ((ts (l3 f0 ((fl.length + j : Nat) : Int))).map .r)), (1, .row 1 out), (0, .var [.i t.fr, .i t.to, .i t.a.tag, .i t.a.window, .i t.a.streams, .i t.a.tsn, .i t.b.tag, .i t.b.window, .i t.b.streams, .i t.b.tsn, .i t.size, .r (.ro none (t.says.map Say.row))])], 6, []⟩)
    (fun j => j ≤ manyN s.text.length z) (fun j => manyN s.text.length z - j) 0 (Nat.zero_le _) (le_eq (by simp)) ?_
  intro j hj
  obtain ⟨t1, t2, t3⟩ := hts (l3 f0 ((fl.length + j : Nat) : Int))
  unfold pc59l0
  simp only [t1, t2, go_sem, ↓reduceIte, Int.toNat_natCast]
  refine ⟨fun hlt2 => ?_, fun hge2 => ?_⟩
  · have hjm : j < manyN s.text.length z := (many_lt hz1.1).2 (by omega)
    have hadd : (j + 1) * z = j * z + z := by rw [Nat.add_mul, Nat.one_mul]
    have e1 : IntKind.i64.wrap (((j * z : Nat) : Int) + t.size) = (((j + 1) * z : Nat) : Int) := by rw [wrap64 (by omega) (by omega)]; omega
    rw [e1]
    generalize hE : (if (s.text.length : Int) < (((j + 1) * z : Nat) : Int) then (s.text.length : Int) else (((j + 1) * z : Nat) : Int)) = E
    have hE1 : E = min (s.text.length : Int) (((j + 1) * z : Nat) : Int) := by rw [← hE]; split <;> omega
    have hpart := part_row hz1.1 f0 fl.length (ssnOf fl s) s j E hE1
    simp only [Int.toNat_natCast] at hpart
    have hlk : ((nextParts z f0 fl s).take j).length = j := by rw [List.length_take, hnl]; omega
    have hstep : ((nextParts z f0 fl s).take j).map (tpRow s.byB) ++ [.b s.byB :: (part z (l3 f0 fl.length) (ssnOf fl s) s j).row] = ((nextParts z f0 fl s).take (j + 1)).map (tpRow s.byB) := by
      rw [show (nextParts z f0 fl s).take (j + 1) = (nextParts z f0 fl s).take j ++ [part z (l3 f0 fl.length) (ssnOf fl s) s j] from take_chunks hjm]
      simp [tpRow]
    rw [hpart] at hstep
    have htk2 : List.take j (((nextParts z f0 fl s).take j).map (tpRow s.byB)) = ((nextParts z f0 fl s).take j).map (tpRow s.byB) := List.take_of_length_le (by rw [List.length_map, hlk]; omega)
    simp only [hm, t1, t2, go_sem, ↓reduceIte]
    refine ⟨⟨by omega, by omega⟩, by omega, ⟨by omega, by omega, by omega⟩, ⟨by rw [hlk]; omega, by omega⟩, ⟨by omega, by omega⟩, by omega, ?_⟩
    refine call_pure (hP ▸ s_SerialAdd (l3 f0 ((fl.length + j : Nat) : Int)) 1) rfl rfl ?_
    rw [serial_l3, if_pos rfl, l3_l3, htk2, hstep]
    simp only [hm, t1, t2, t3, go_sem, ↓reduceIte, Int.toNat_natCast]
    rw [e1]
    refine ⟨⟨by omega, by omega⟩, by omega, j + 1, hjm, by omega, le_ev [] ?_⟩
    simp only [hm, go_sem, ↓reduceIte]
    rfl
  · have hjm : j = manyN s.text.length z := by
      rcases Nat.lt_or_ge j (manyN s.text.length z) with h | h
      · have := (many_lt hz1.1).1 h; omega
      · omega
    have htk : (nextParts z f0 fl s).take j = nextParts z f0 fl s := List.take_of_length_le (by rw [hnl]; omega)
    rw [htk]
    refine ⟨_, rfl, Le.trans (le_frz 5 rfl ?_ ?_) (le_ev [] ?_)⟩
    · simp only [hm, go_sem, ↓reduceIte, List.length_map, hnl]
      omega
    · simp only [hm, go_sem, ↓reduceIte]
    · simp only [hm, go_sem, ↓reduceIte]
      exact ⟨by rw [List.take_of_length_le (by rw [List.length_map, hnl]; omega)], by rw [hnl, hjm]⟩

theorem loop_partsOf1 {c : Cx} (hP : c.P = Try.prog) (hm : c.m = 0) (t : Talk) (z : Nat) (hv : talkB t = true) (hz : t.size = z) {n r : St → Prop} {x : Nat → St → Prop}
    (hx : x 0 ⟨[(3, .sl 1 0 (lists z t.a.tsn t.b.tsn t.says [] []).length)], [(1, .row 1 ((lists z t.a.tsn t.b.tsn t.says [] []).map listRow))], 2, []⟩) :
    Run c (.lp pc59l1) ⟨[(1, .ptr 0 0 0), (3, .sl 1 0 0), (4, .ptr 2 0 0), (5, .ptr 3 0 0), (23, .r (.ro none (t.says.map Say.row))), (24, .i t.says.length), (25, .i 0)],
      [(3, .var [.i 0, .i 0, .i 0, .i 0, .i 0, .i 0, .i 0, .i 0]), (2, .var [.i t.a.tsn, .i t.b.tsn]), (1, .row 1 []), (0, .var [.i t.fr, .i t.to, .i t.a.tag, .i t.a.window, .i t.a.streams, .i t.a.tsn, .i t.b.tag, .i t.b.window, .i t.b.streams, .i t.b.tsn, .i t.size, .r (.ro none (t.says.map Say.row))])], 4, []⟩ n x r := by
  obtain ⟨hsz, hlen, hsays, hta, htb, hsa, hsb⟩ := talk_ok hv
  have hz1 : 1 ≤ z ∧ z ≤ 20 := by omega
  refine run_exit 0 (fun t0 => t0 = ⟨[(3, .sl 1 0 (lists z t.a.tsn t.b.tsn t.says [] []).length)], [(1, .row 1 ((lists z t.a.tsn t.b.tsn t.says [] []).map listRow))], 2, []⟩) ?_ (fun t0 h => by rw [h]; exact hx)
  refine lp_wpc (α := Nat × List (Bool × List Data) × List Data × List Data) (fun y => ⟨[(1, .ptr 0 0 0), (3, .sl 1 0 y.2.1.length), (4, .ptr 2 0 0), (5, .ptr 3 0 0), (23, .r (.ro none (t.says.map Say.row))), (24, .i t.says.length), (25, .i y.1)],
      [(3, .var (cnts y.2.2.1 y.2.2.2)), (2, .var [.i (l3 t.a.tsn (y.2.2.1.length : Int)), .i (l3 t.b.tsn (y.2.2.2.length : Int))]), (1, .row 1 (y.2.1.map listRow)), (0, .var [.i t.fr, .i t.to, .i t.a.tag, .i t.a.window, .i t.a.streams, .i t.a.tsn, .i t.b.tag, .i t.b.window, .i t.b.streams, .i t.b.tsn, .i t.size, .r (.ro none (t.says.map Say.row))])], 4, []⟩)
    (fun y => y.1 ≤ t.says.length ∧ y.2.1.length = y.1 ∧ y.2.2.1.length ≤ 60 * y.1 ∧ y.2.2.2.length ≤ 60 * y.1 ∧ y.2.1 ++ lists z t.a.tsn t.b.tsn (t.says.drop y.1) y.2.2.1 y.2.2.2 = lists z t.a.tsn t.b.tsn t.says [] []) (fun y => t.says.length - y.1) (0, [], [], [])
    ⟨Nat.zero_le _, rfl, Nat.zero_le _, Nat.zero_le _, rfl⟩ (le_eq (by simp [cnts, ssnIn, l3_zero hta, l3_zero htb])) ?_
  rintro ⟨i, acc, f, g⟩ ⟨hi, ha, hf, hg, hI⟩
  simp only at hi ha hf hg hI
  unfold pc59l1
  simp only [go_sem, ↓reduceIte]
  refine ⟨fun hlt => ?_, fun hge => ?_⟩
  · have hil : i < t.says.length := by omega
    rw [lists_drop hil] at hI
    obtain ⟨q1, q2, q3, q4⟩ := hsays _ (List.getElem_mem hil)
    simp only [Int.toNat_natCast, getD_map hil, Say.row, go_sem, ↓reduceIte]
    generalize t.says[i] = s at hI q1 q2 q3 q4
    have hml := many_le2 (n := s.text.length) hz1.1
    refine ⟨⟨by omega, by omega⟩, ?_⟩
    obtain ⟨byB, stream, loose, text⟩ := s
    simp only at hI q1 q2 q3 q4 hml
    cases byB
    · simp only [Bool.false_eq_true, if_false, if_true] at hI q4
      have h4 : 0 ≤ stream ∧ stream < 4 := by omega
      cases loose
      · simp only [cnts_a h4, go_sem, ↓reduceIte]
        have hle := ssnIn_le f stream
        rw [wrap64 (x := (ssnIn f stream : Int) + 1) (by omega) (by omega)]
        have hset := cnts_seta (f := f) (g := g) (s := ⟨false, stream, false, text⟩) hz1.1 (tsn := t.a.tsn) q1 h4 rfl
        simp only at hset
        rw [hset, cntsR_map]
        refine ⟨h4, by omega, h4, by omega, h4, by omega, ?_⟩
        refine loop_partsOf0 hP hm t z hz hz1 ⟨false, stream, false, text⟩ q1 q2 i acc.length (by omega) t.a.tsn hta f (by omega) 0 (by decide) (fun v => [.n .i64 v, .n .i64 (l3 t.b.tsn (g.length : Int))]) (fun v => ⟨rfl, rfl, fun u => rfl⟩) _ _ ?_
        rw [← cntsR_map]
        simp only [hm, go_sem, ↓reduceIte]
        have hrow : List.take acc.length (acc.map listRow) ++ [[.ro none ((nextParts z t.a.tsn f ⟨false, stream, false, text⟩).map (tpRow false))]] = (acc ++ [(false, nextParts z t.a.tsn f ⟨false, stream, false, text⟩)]).map listRow := by
          rw [List.take_of_length_le (by simp)]; simp [listRow]
        rw [hrow, wrap64 (x := (i : Int) + 1) (by omega) (by omega)]
        refine ⟨by omega, (i + 1, acc ++ [(false, nextParts z t.a.tsn f ⟨false, stream, false, text⟩)], (f ++ nextParts z t.a.tsn f ⟨false, stream, false, text⟩), g), ⟨hil, by simp only; rw [List.length_append]; simp; omega, by simp only; rw [List.length_append, nextParts_len]; simp only; omega, by simp only; omega, by simp only; rw [List.append_assoc]; exact hI⟩, by simp only; omega, le_ev [] ?_⟩
        simp only [cntsR_map, hm, go_sem, ↓reduceIte, Nat.reduceLeDiff]
        rfl
      · simp only [go_sem, ↓reduceIte]
        rw [← cnts_loosea (f := f) (g := g) (s := ⟨false, stream, true, text⟩) hz1.1 (tsn := t.a.tsn) q1 rfl, cntsR_map]
        refine loop_partsOf0 hP hm t z hz hz1 ⟨false, stream, true, text⟩ q1 q2 i acc.length (by omega) t.a.tsn hta f (by omega) 0 (by decide) (fun v => [.n .i64 v, .n .i64 (l3 t.b.tsn (g.length : Int))]) (fun v => ⟨rfl, rfl, fun u => rfl⟩) _ _ ?_
        rw [← cntsR_map]
        simp only [hm, go_sem, ↓reduceIte]
        have hrow : List.take acc.length (acc.map listRow) ++ [[.ro none ((nextParts z t.a.tsn f ⟨false, stream, true, text⟩).map (tpRow false))]] = (acc ++ [(false, nextParts z t.a.tsn f ⟨false, stream, true, text⟩)]).map listRow := by
          rw [List.take_of_length_le (by simp)]; simp [listRow]
        rw [hrow, wrap64 (x := (i : Int) + 1) (by omega) (by omega)]
        refine ⟨by omega, (i + 1, acc ++ [(false, nextParts z t.a.tsn f ⟨false, stream, true, text⟩)], (f ++ nextParts z t.a.tsn f ⟨false, stream, true, text⟩), g), ⟨hil, by simp only; rw [List.length_append]; simp; omega, by simp only; rw [List.length_append, nextParts_len]; simp only; omega, by simp only; omega, by simp only; rw [List.append_assoc]; exact hI⟩, by simp only; omega, le_ev [] ?_⟩
        simp only [cntsR_map, hm, go_sem, ↓reduceIte, Nat.reduceLeDiff]
        rfl
    · simp only [Bool.false_eq_true, if_false, if_true] at hI q4
      have h4 : 0 ≤ stream ∧ stream < 4 := by omega
      cases loose
      · simp only [cnts_b h4, go_sem, ↓reduceIte]
        have hle := ssnIn_le g stream
        rw [wrap64 (x := (ssnIn g stream : Int) + 1) (by omega) (by omega)]
        have hset := cnts_setb (f := f) (g := g) (s := ⟨true, stream, false, text⟩) hz1.1 (tsn := t.b.tsn) q1 h4 rfl
        simp only at hset
        rw [hset, cntsR_map]
        refine ⟨h4, by omega, h4, by omega, h4, by omega, ?_⟩
        refine loop_partsOf0 hP hm t z hz hz1 ⟨true, stream, false, text⟩ q1 q2 i acc.length (by omega) t.b.tsn htb g (by omega) 1 (by decide) (fun v => [.n .i64 (l3 t.a.tsn (f.length : Int)), .n .i64 v]) (fun v => ⟨rfl, rfl, fun u => rfl⟩) _ _ ?_
        rw [← cntsR_map]
        simp only [hm, go_sem, ↓reduceIte]
        have hrow : List.take acc.length (acc.map listRow) ++ [[.ro none ((nextParts z t.b.tsn g ⟨true, stream, false, text⟩).map (tpRow true))]] = (acc ++ [(true, nextParts z t.b.tsn g ⟨true, stream, false, text⟩)]).map listRow := by
          rw [List.take_of_length_le (by simp)]; simp [listRow]
        rw [hrow, wrap64 (x := (i : Int) + 1) (by omega) (by omega)]
        refine ⟨by omega, (i + 1, acc ++ [(true, nextParts z t.b.tsn g ⟨true, stream, false, text⟩)], f, (g ++ nextParts z t.b.tsn g ⟨true, stream, false, text⟩)), ⟨hil, by simp only; rw [List.length_append]; simp; omega, by simp only; omega, by simp only; rw [List.length_append, nextParts_len]; simp only; omega, by simp only; rw [List.append_assoc]; exact hI⟩, by simp only; omega, le_ev [] ?_⟩
        simp only [cntsR_map, hm, go_sem, ↓reduceIte, Nat.reduceLeDiff]
        rfl
      · simp only [go_sem, ↓reduceIte]
        rw [← cnts_looseb (f := f) (g := g) (s := ⟨true, stream, true, text⟩) hz1.1 (tsn := t.b.tsn) q1 rfl, cntsR_map]
        refine loop_partsOf0 hP hm t z hz hz1 ⟨true, stream, true, text⟩ q1 q2 i acc.length (by omega) t.b.tsn htb g (by omega) 1 (by decide) (fun v => [.n .i64 (l3 t.a.tsn (f.length : Int)), .n .i64 v]) (fun v => ⟨rfl, rfl, fun u => rfl⟩) _ _ ?_
        rw [← cntsR_map]
        simp only [hm, go_sem, ↓reduceIte]
        have hrow : List.take acc.length (acc.map listRow) ++ [[.ro none ((nextParts z t.b.tsn g ⟨true, stream, true, text⟩).map (tpRow true))]] = (acc ++ [(true, nextParts z t.b.tsn g ⟨true, stream, true, text⟩)]).map listRow := by
          rw [List.take_of_length_le (by simp)]; simp [listRow]
        rw [hrow, wrap64 (x := (i : Int) + 1) (by omega) (by omega)]
        refine ⟨by omega, (i + 1, acc ++ [(true, nextParts z t.b.tsn g ⟨true, stream, true, text⟩)], f, (g ++ nextParts z t.b.tsn g ⟨true, stream, true, text⟩)), ⟨hil, by simp only; rw [List.length_append]; simp; omega, by simp only; omega, by simp only; rw [List.length_append, nextParts_len]; simp only; omega, by simp only; rw [List.append_assoc]; exact hI⟩, by simp only; omega, le_ev [] ?_⟩
        simp only [cntsR_map, hm, go_sem, ↓reduceIte, Nat.reduceLeDiff]
        rfl
  · have : i = t.says.length := by omega
    subst this
    rw [List.drop_eq_nil_of_le (Nat.le_refl _)] at hI
    simp only [lists, List.append_nil] at hI
    rw [← hI]
    exact ⟨_, rfl, le_ev [] (by simp only [hm, go_sem, ↓reduceIte, Nat.reduceLeDiff])⟩
def talkLists (t : Talk) : List (Bool × List Data) := lists t.size.toNat t.a.tsn t.b.tsn t.says [] []
theorem s_partsOf (t : Talk) (hv : talkB t = true) : Spec Try.prog 59 0 [] [t.ro] (New1 (.sl 0 0 (talkLists t).length) 1 ((talkLists t).map listRow)) := by
  refine Spec.new1 (Q := fun r hp _ _ => r = .sl 1 0 (talkLists t).length ∧ hget hp 1 = some (.row 1 ((talkLists t).map listRow))) ?_ (fun r hp nx gs h => ⟨1, h.1, h.2⟩) (fun f g h => by simp only [go_sem, h])
  obtain ⟨hsz, hlen, hsays, hta, htb, _, _⟩ := talk_ok hv
  have hz : t.size = (t.size.toNat : Int) := by omega
  refine mk59 rfl fun c hP hm => ?_
  unfold pc59 Talk.ro Talk.av talkLists
  simp only [go_sem, ↓reduceIte]
  intro _
  refine loop_partsOf1 hP hm t _ hv hz ?_
  simp only [hm, go_sem, ↓reduceIte]
theorem talkParts_flat (t : Talk) (byB : Bool) (hv : talkB t = true) : talkParts t byB = flatOf byB (talkLists t) := by
  have h := flat_lists t.size.toNat t.a.tsn t.b.tsn byB t.says [] []
  unfold talkParts talkLists
  rw [if_pos hv]
  cases byB <;> simpa [Talk.tsn] using h
theorem flatOf_app (byB : Bool) (a b : List (Bool × List Data)) : flatOf byB (a ++ b) = flatOf byB a ++ flatOf byB b := by simp [flatOf]
theorem partsAcc_len (z : Nat) (hz : 1 ≤ z) (f : Int) (byB : Bool) : ∀ (l : List Say) (out : List Data), (∀ s ∈ l, s.text.length ≤ 60) → (partsAcc z f byB l out).length ≤ out.length + 60 * l.length
  | [], out, _ => by simp [partsAcc]
  | s :: l, out, h => by
    have h1 := h s (List.mem_cons_self ..)
    have ml := many_le2 (n := s.text.length) hz
    have ih := partsAcc_len z hz f byB l (if s.byB = byB then out ++ nextParts z f out s else out) (fun x hx => h x (List.mem_cons_of_mem _ hx))
    simp only [partsAcc, List.length_cons]
    refine Nat.le_trans ih ?_
    split
    · rw [List.length_append, nextParts_len]; omega
    · omega
theorem talkParts_len (t : Talk) (byB : Bool) : (talkParts t byB).length ≤ 240 := by
  unfold talkParts
  split
  · rename_i hv
    obtain ⟨hsz, hlen, hsays, _⟩ := talk_ok hv
    have := partsAcc_len t.size.toNat (by omega) (t.tsn byB) byB t.says [] (fun s hs => (hsays s hs).2.1)
    simp only [List.length_nil] at this
    omega
  · simp
theorem loop_implTalkParts0 {c : Cx} (hP : c.P = Try.prog) (hm : c.m = 0) (L : List (Bool × List Data)) (byB b : Bool) (ds out : List Data) (i : Nat) (hlen : out.length + (if b = byB then ds else []).length ≤ 1000000) (hds : ds.length ≤ 1000000) {n r : St → Prop} {x : Nat → St → Prop}
    (hx : x 2 ⟨[(1, .bo byB), (5, .sl 1 0 (out ++ if b = byB then ds else []).length), (15, .sl 2 0 L.length), (16, .i L.length), (17, .i i)], [(2, .row 1 (L.map listRow)), (1, .row 7 ((out ++ if b = byB then ds else []).map Data.row))], 3, []⟩) :
    Run c (.lp pc25l0) ⟨[(1, .bo byB), (5, .sl 1 0 out.length), (15, .sl 2 0 L.length), (16, .i L.length), (17, .i i), (21, .r (.ro none (ds.map (tpRow b)))), (22, .i ds.length), (23, .i 0)], [(2, .row 1 (L.map listRow)), (1, .row 7 (out.map Data.row))], 3, []⟩ n x r := by
  refine run_exit 2 (fun t0 => t0 = ⟨[(1, .bo byB), (5, .sl 1 0 (out ++ if b = byB then ds else []).length), (15, .sl 2 0 L.length), (16, .i L.length), (17, .i i)], [(2, .row 1 (L.map listRow)), (1, .row 7 ((out ++ if b = byB then ds else []).map Data.row))], 3, []⟩) ?_ (fun t0 h => by rw [h]; exact hx)
  refine lp_wpc (α := Nat) (fun j => ⟨[(1, .bo byB), (5, .sl 1 0 (out ++ if b = byB then ds.take j else []).length), (15, .sl 2 0 L.length), (16, .i L.length), (17, .i i), (21, .r (.ro none (ds.map (tpRow b)))), (22, .i ds.length), (23, .i j)], [(2, .row 1 (L.map listRow)), (1, .row 7 ((out ++ if b = byB then ds.take j else []).map Data.row))], 3, []⟩)
    (fun j => j ≤ ds.length) (fun j => ds.length - j) 0 (Nat.zero_le _) (le_eq (by simp)) ?_
  intro j hj
  unfold pc25l0
  simp only [hm, go_sem, ↓reduceIte]
  refine ⟨fun hlt => ?_, fun hge => ?_⟩
  · have hjl : j < ds.length := by omega
    simp only [Int.toNat_natCast, getD_map hjl, tpRow, Data.row, hm, go_sem, ↓reduceIte]
    rw [wrap64 (x := (j : Int) + 1) (by omega) (by omega)]
    refine ⟨by omega, fun hb => ?_, fun hb => ?_⟩
    · subst hb
      simp only [if_true] at hlen ⊢
      have hl : (ds.take j).length = j := by rw [List.length_take]; omega
      refine ⟨by omega, j + 1, by omega, by omega, le_ev [] ?_⟩
      have e : List.take (out.length + (ds.take j).length) (List.map Data.row (out ++ ds.take j)) ++ [[.n .i64 ds[j].tsn, .n .i64 ds[j].stream, .n .i64 ds[j].ssn, .b ds[j].first, .b ds[j].last, .b ds[j].loose, .s ds[j].text]] = List.map Data.row (out ++ ds.take (j + 1)) := by
        rw [List.take_of_length_le (i := out.length + (ds.take j).length) (by simp), take_get hjl]; simp only [List.map_append, List.map_cons, List.map_nil, List.append_assoc, Data.row]
      rw [e]
      have e2 : out.length + (ds.take j).length + 1 = out.length + (ds.take (j + 1)).length := by rw [List.length_take, List.length_take]; omega
      rw [e2]
      simp only [hm, go_sem, ↓reduceIte]
      rfl
    · simp only [if_neg hb] at hlen ⊢
      refine ⟨j + 1, by omega, by omega, le_ev [] ?_⟩
      simp only [hm, go_sem, ↓reduceIte]
      rfl
  · have : j = ds.length := by omega
    subst this
    refine ⟨_, rfl, le_ev [] ?_⟩
    simp only [hm, List.take_length, go_sem, ↓reduceIte]
theorem loop_implTalkParts1 {c : Cx} (hP : c.P = Try.prog) (hm : c.m = 0) (L : List (Bool × List Data)) (byB : Bool) (tv : List AV) (hlen : (flatOf byB L).length ≤ 1000) (hL : L.length ≤ 1000) (hds : ∀ x ∈ L, x.2.length ≤ 1000) {n r : St → Prop} {x : Nat → St → Prop}
    (hx : x 0 ⟨[(5, .sl 1 0 (flatOf byB L).length)], [(1, .row 7 ((flatOf byB L).map Data.row))], 2, []⟩) :
    Run c (.lp pc25l1) ⟨[(1, .bo byB), (5, .sl 1 0 0), (15, .sl 2 0 L.length), (16, .i L.length), (17, .i 0)], [(2, .row 1 (L.map listRow)), (1, .row 7 []), (0, .var tv)], 3, []⟩ n x r := by
  refine run_exit 0 (fun t0 => t0 = ⟨[(5, .sl 1 0 (flatOf byB L).length)], [(1, .row 7 ((flatOf byB L).map Data.row))], 2, []⟩) ?_ (fun t0 h => by rw [h]; exact hx)
  refine lp_wpc (α := Nat) (fun i => ⟨[(1, .bo byB), (5, .sl 1 0 (flatOf byB (L.take i)).length), (15, .sl 2 0 L.length), (16, .i L.length), (17, .i i)], [(2, .row 1 (L.map listRow)), (1, .row 7 ((flatOf byB (L.take i)).map Data.row))], 3, []⟩)
    (fun i => i ≤ L.length) (fun i => L.length - i) 0 (Nat.zero_le _) (le_ev [] (by simp only [hm, List.take_zero, flatOf, List.flatMap_nil, go_sem, ↓reduceIte])) ?_
  intro i hi
  unfold pc25l1
  simp only [go_sem, ↓reduceIte]
  refine ⟨fun hlt => ?_, fun hge => ?_⟩
  · have hil : i < L.length := by omega
    have hmem := hds _ (List.getElem_mem hil)
    have hfl : flatOf byB (L.take (i + 1)) = flatOf byB (L.take i) ++ if L[i].1 = byB then L[i].2 else [] := by
      rw [take_get hil, flatOf_app]; simp [flatOf]
    have hfl2 : (flatOf byB (L.take (i + 1))).length ≤ (flatOf byB L).length := by
      have : flatOf byB L = flatOf byB (L.take (i + 1)) ++ flatOf byB (L.drop (i + 1)) := by rw [← flatOf_app, List.take_append_drop]
      rw [this, List.length_append]; omega
    rw [hfl, List.length_append] at hfl2
    simp only [Int.toNat_natCast, getD_map hil, listRow, go_sem, ↓reduceIte]
    refine ⟨by omega, hil, fun _ => ?_⟩
    refine loop_implTalkParts0 hP hm L byB L[i].1 L[i].2 (flatOf byB (L.take i)) i (by omega) (by omega) ?_
    rw [← hfl]
    simp only [hm, go_sem, ↓reduceIte]
    rw [wrap64 (x := (i : Int) + 1) (by omega) (by omega)]
    exact ⟨i + 1, by omega, by omega, le_ev [] (by simp only [hm, go_sem, ↓reduceIte]; rfl)⟩
  · have : i = L.length := by omega
    subst this
    rw [List.take_of_length_le (Nat.le_refl _)]
    exact ⟨_, rfl, le_ev [] (by simp only [hm, go_sem, ↓reduceIte, Nat.reduceLeDiff])⟩
theorem lists_ok (z : Nat) (hz : 1 ≤ z) (ta tb : Int) : ∀ (l : List Say) (f g : List Data), (∀ s ∈ l, s.text.length ≤ 60) → (lists z ta tb l f g).length = l.length ∧ ∀ x ∈ lists z ta tb l f g, x.2.length ≤ 60
  | [], f, g, _ => by simp [lists]
  | s :: l, f, g, h => by
    have h1 := h s (List.mem_cons_self ..)
    have ml := many_le2 (n := s.text.length) hz
    have ih := fun f g => lists_ok z hz ta tb l f g (fun x hx => h x (List.mem_cons_of_mem _ hx))
    unfold lists
    split
    · refine ⟨by rw [List.length_cons, List.length_cons, (ih _ _).1], fun x hx => ?_⟩
      rcases List.mem_cons.1 hx with rfl | hx
      · simp only [nextParts_len]; omega
      · exact (ih _ _).2 x hx
    · refine ⟨by rw [List.length_cons, List.length_cons, (ih _ _).1], fun x hx => ?_⟩
      rcases List.mem_cons.1 hx with rfl | hx
      · simp only [nextParts_len]; omega
      · exact (ih _ _).2 x hx
theorem talkLists_ok {t : Talk} (hv : talkB t = true) : (talkLists t).length ≤ 4 ∧ ∀ x ∈ talkLists t, x.2.length ≤ 60 := by
  obtain ⟨hsz, hlen, hsays, _⟩ := talk_ok hv
  have := lists_ok t.size.toNat (by omega) t.a.tsn t.b.tsn t.says [] [] (fun s hs => (hsays s hs).2.1)
  unfold talkLists
  rw [this.1]
  exact ⟨hlen, this.2⟩
theorem s_implTalkParts (t : Talk) (byB : Bool) (hl : t.says.length ≤ 1048576) : Spec Try.prog 25 0 [] [t.ro, .bo byB] (if talkB t = true then New1 (.sl 0 0 (talkParts t byB).length) 7 ((talkParts t byB).map Data.row) else fun r _ _ _ => r = .r .nil) := by
  by_cases hv : talkB t = true
  · rw [if_pos hv]
    refine Spec.new1 (Q := fun r hp _ _ => r = .sl 1 0 (talkParts t byB).length ∧ hget hp 1 = some (.row 7 ((talkParts t byB).map Data.row))) ?_ (fun r hp nx gs h => ⟨1, h.1, h.2⟩) (fun f g h => by simp only [go_sem, h])
    refine mk25 rfl fun c hP hm => ?_
    unfold pc25 Talk.ro Talk.av
    simp only [go_sem, ↓reduceIte]
    refine call_pure (hP ▸ s_implTalkValid t hl) rfl rfl ?_
    simp only [hv, go_sem, ↓reduceIte]
    refine call_new1p (hP ▸ s_partsOf t hv) rfl ?_
    simp only [hm, go_sem, ↓reduceIte]
    intro _
    refine loop_implTalkParts1 hP hm _ byB _ ?_ ?_ ?_ ?_
    · rw [← talkParts_flat t byB hv]; have := talkParts_len t byB; omega
    · have := (talkLists_ok hv).1; omega
    · intro x hx; have := (talkLists_ok hv).2 x hx; omega
    · rw [← talkParts_flat t byB hv]
      simp only [hm, go_sem, ↓reduceIte]
  · rw [if_neg hv]
    refine mk25 rfl fun c hP hm => ?_
    unfold pc25 Talk.ro Talk.av
    simp only [go_sem, ↓reduceIte]
    refine call_pure (hP ▸ s_implTalkValid t hl) rfl rfl ?_
    simp only [hv, go_sem, ↓reduceIte]

end Go.Cap
