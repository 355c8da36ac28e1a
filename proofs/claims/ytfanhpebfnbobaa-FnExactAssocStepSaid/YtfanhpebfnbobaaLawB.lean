import Derived.Test.YtfanhpebfnbobaaLawA
import Derived.Test.YtfanhpebfnbobaaPc
/- Contracts: steps of an association (the reference's): parts that are read. -/
namespace Go.Cap
open Go Go.Proofs
set_option maxRecDepth 100000
set_option linter.unusedSimpArgs false
set_option linter.unusedVariables false
attribute [local irreducible] Call Run Spec Le

theorem resA_b {a : Assoc} {b : Bool} {n : Int} {x : Assoc × Int} (hb : a.byB = b) (h : (a, n) = x) :
    AV.tup [.agg [.i a.fr, .i a.to, .i a.state, .bo b, .i a.a.tag, .i a.a.streams, .i a.a.first, .r (.ro none (a.a.sent.map Data.row)), .i a.a.acked, .i a.b.tag, .i a.b.streams, .i a.b.first, .r (.ro none (a.b.sent.map Data.row)), .i a.b.acked], .i n] = resA x := by subst h; subst hb; rfl
set_option maxHeartbeats 2000000 in
theorem s_l31Data1 (a : Assoc) (byB : Bool) (k : Chunk) (d : Data) (hs : k.body.length ≤ 1000000000) (hw : AW a) (hg : dataGet k = some d) : Spec Try.prog 167 0 [] [a.ro, .bo byB, k.av] (fun r _ _ _ => r = resA (stepData a byB k)) := by
  have hS := s_l31Side a byB
  have hG := s_specDataGet k hs
  have hW := fun s => s_l31With a byB s
  obtain ⟨⟨f0, f1⟩, hl, hd⟩ := hw.own byB
  have hdb := dataGet_ok hg
  have ht := dataB_tsn hdb
  unfold stepData
  refine mk167 rfl fun c hP hm => ?_
  unfold pc167
  have hu : a.ro = .agg [.i a.fr, .i a.to, .i a.state, .bo a.byB, .i a.a.tag, .i a.a.streams, .i a.a.first, .r (.ro none (a.a.sent.map Data.row)), .i a.a.acked, .i a.b.tag, .i a.b.streams, .i a.b.first, .r (.ro none (a.b.sent.map Data.row)), .i a.b.acked] := rfl
  rw [hu] at hS hW ⊢
  unfold Chunk.av at hG ⊢
  simp only [hm, go_sem, ↓reduceIte]
  refine call_data (hP ▸ hG) rfl rfl ?_
  rw [hg]
  simp only [Option.getD_some, Option.isSome_some, Data.av, hm, go_sem, ↓reduceIte]
  refine call_data (hP ▸ hS) (by cases byB <;> rfl) rfl ?_
  have hn : IntKind.i64.wrap (0 - (a.own byB).first) = -(a.own byB).first := by rw [wrap64 (by omega) (by omega)]; omega
  have hK := l3_range d.tsn (-(a.own byB).first)
  generalize hoo : a.own byB = o at *
  generalize a.other byB = o' at *
  have hM := s_l31Follows o.sent d (by omega)
  unfold Data.av at hM
  have hA := s_l3Add d.tsn (-o.first) ht
  generalize l3 d.tsn (-o.first) = K at *
  generalize mayB o.sent d = mb at *
  simp only [Side.ro, Side.av, hn, hm, go_sem, ↓reduceIte]
  intro _
  refine call_pure (hP ▸ hA) rfl rfl ?_
  generalize hbb : a.byB = bb at *
  by_cases hk : K < o.sent.length
  · have hil : K.toNat < o.sent.length := by omega
    have hgt := getD_map (f := Data.row) hil
    have hgx : o.sent.getD K.toNat noData = o.sent[K.toNat] := by simp [List.getD_eq_getElem?_getD, hil]
    rw [hgx]
    generalize o.sent[K.toNat] = x at hgt
    have hq : (x.tsn == d.tsn && (x.stream == d.stream && (x.ssn == d.ssn && (x.first == d.first && (x.last == d.last && (x.loose == d.loose && x.text == d.text)))))) = eqData x d := rfl
    clear hS hG hW hM hA
    cases byB <;> cases bb
    all_goals
      simp only [hgt, Data.row, hk, hm, go_sem, ↓reduceIte]
      try simp only [hq, hm, go_sem, ↓reduceIte]
      repeat' first
        | refine And.intro ?_ ?_
        | intro _
    all_goals first
      | omega
      | (refine resA_b hbb ?_
         try simp only [Bool.and_eq_true, Bool.or_eq_true, decide_eq_true_eq, Bool.not_eq_true', Bool.or_eq_false_iff, Bool.and_eq_false_iff, decide_eq_false_iff_not, Bool.and_true, Bool.and_false, Bool.or_false, Bool.false_or, Bool.not_true, Bool.not_false, Bool.true_and, Bool.false_and, bne_self_eq_false, Bool.false_bne, Bool.true_bne]
         repeat' split
         all_goals first
           | rfl
           | (exfalso; omega)
           | (exfalso; simp_all; done)
           | (exfalso; simp_all [eqData]; done)
           | (exfalso; simp_all; omega))
  · have hnl : ((o.sent.map Data.row).length : Int) = o.sent.length := by simp
    clear hS hG
    have hrow : List.take o.sent.length (o.sent.map Data.row) ++ [[.n .i64 d.tsn, .n .i64 d.stream, .n .i64 d.ssn, .b d.first, .b d.last, .b d.loose, .s d.text]] = (o.sent ++ [d]).map Data.row := by
      rw [take_map_len, List.map_append]; rfl
    have htk : List.take (o.sent.length + 1) ((o.sent ++ [d]).map Data.row) = (o.sent ++ [d]).map Data.row := List.take_of_length_le (by simp)
    have hrows : rowsN 7 (o.sent.map Data.row) := fun r hr => by obtain ⟨d, _, rfl⟩ := List.mem_map.1 hr; rfl
    cases byB <;> cases bb
    all_goals
      simp only [hk, hm, go_sem, ↓reduceIte]
      repeat' first
        | refine And.intro ?_ ?_
        | intro _
        | (refine call_pure (hP ▸ hM) rfl rfl ?_; simp only [hrow, hm, go_sem, ↓reduceIte])
        | (refine call_frz 6 rfl rfl (by simp only [List.length_map, List.length_append, List.length_cons, List.length_nil, go_sem, ↓reduceIte]) ?_; simp only [htk, List.drop_zero, hm, go_sem, ↓reduceIte]; refine call_data (hP ▸ hW { o with sent := o.sent ++ [d] }) rfl rfl ?_; simp only [Assoc.ro, Assoc.av, hm, go_sem, ↓reduceIte])
        | (refine call_frz 7 rfl rfl (by simp only [List.length_map, List.length_append, List.length_cons, List.length_nil, go_sem, ↓reduceIte]) ?_; simp only [htk, List.drop_zero, hm, go_sem, ↓reduceIte]; refine call_data (hP ▸ hW { o with sent := o.sent ++ [d] }) rfl rfl ?_; simp only [Assoc.ro, Assoc.av, hm, go_sem, ↓reduceIte])
        | (refine call_frz 8 rfl rfl (by simp only [List.length_map, List.length_append, List.length_cons, List.length_nil, go_sem, ↓reduceIte]) ?_; simp only [htk, List.drop_zero, hm, go_sem, ↓reduceIte]; refine call_data (hP ▸ hW { o with sent := o.sent ++ [d] }) rfl rfl ?_; simp only [Assoc.ro, Assoc.av, hm, go_sem, ↓reduceIte])
        | (refine call_frz 5 rfl rfl (by simp only [List.length_map, List.length_append, List.length_cons, List.length_nil, go_sem, ↓reduceIte]) ?_; simp only [htk, List.drop_zero, hm, go_sem, ↓reduceIte]; refine call_data (hP ▸ hW { o with sent := o.sent ++ [d] }) rfl rfl ?_; simp only [Assoc.ro, Assoc.av, hm, go_sem, ↓reduceIte])
    all_goals first
      | omega
      | exact hrows
      | (rename_i r hr; exact hrows r hr)
      | (simp only [List.length_map]; omega)
      | (refine resA_b hbb ?_
         try simp only [Bool.and_eq_true, Bool.or_eq_true, decide_eq_true_eq, Bool.not_eq_true', Bool.or_eq_false_iff, Bool.and_eq_false_iff, decide_eq_false_iff_not, Bool.and_true, Bool.and_false, Bool.or_false, Bool.false_or, Bool.not_true, Bool.not_false, Bool.true_and, Bool.false_and, bne_self_eq_false, Bool.false_bne, Bool.true_bne]
         repeat' split
         all_goals first
           | rfl
           | (exfalso; omega)
           | (exfalso; simp_all; done)
           | (exfalso; simp_all [eqData]; done)
           | (exfalso; simp_all; omega))
      | (refine resA_a ?_
         try simp only [Bool.and_eq_true, Bool.or_eq_true, decide_eq_true_eq, Bool.not_eq_true', Bool.or_eq_false_iff, Bool.and_eq_false_iff, decide_eq_false_iff_not, Bool.and_true, Bool.and_false, Bool.or_false, Bool.false_or, Bool.not_true, Bool.not_false, Bool.true_and, Bool.false_and, bne_self_eq_false, Bool.false_bne, Bool.true_bne]
         repeat' split
         all_goals first
           | rfl
           | (exfalso; omega)
           | (exfalso; simp_all; done)
           | (exfalso; simp_all; omega))
theorem s_l31Data (a : Assoc) (byB : Bool) (k : Chunk) (hs : k.body.length ≤ 1000000000) (hw : AW a) : Spec Try.prog 167 0 [] [a.ro, .bo byB, k.av] (fun r _ _ _ => r = resA (stepData a byB k)) := by
  cases hg : dataGet k with
  | none => exact s_l31Data0 a byB k hs hw hg
  | some d => exact s_l31Data1 a byB k d hs hw hg
theorem s_l3Diff (a b : Int) (ha : 0 ≤ a ∧ a < 65536) (hb : 0 ≤ b ∧ b < 65536) : Spec Try.prog 182 0 [] [.i a, .i b] (fun r _ _ _ => r = .i (l3d a b)) := by
  refine mk182 rfl fun c hP hm => ?_
  unfold pc182
  have hn : IntKind.i64.wrap (0 - a) = -a := by rw [wrap64 (by omega) (by omega)]; omega
  have hK := l3_range b (-a)
  unfold l3d
  simp only [hn, hm, go_sem, ↓reduceIte]
  refine call_pure (hP ▸ s_l3Add b (-a) hb) rfl rfl ?_
  generalize l3 b (-a) = K at *
  have hw : IntKind.i64.wrap (K - 65536) = K - 65536 := wrap64 (by omega) (by omega)
  simp only [hw, hm, go_sem, ↓reduceIte]
  repeat' first
    | refine And.intro ?_ ?_
    | intro _
  all_goals first
    | omega
    | (rw [if_pos (by omega)])
    | (rw [if_neg (by omega)])
def noSack : Sack := ⟨0, []⟩
end Go.Cap

/- Contracts: the reference reads receipts, and takes them. -/
namespace Go.Cap
open Go Go.Proofs
set_option maxRecDepth 100000
set_option linter.unusedSimpArgs false
set_option linter.unusedVariables false
attribute [local irreducible] Call Run Spec Le

theorem gapsOf_range : ∀ l : List UInt8, gapsOf l = (List.range (l.length / 4)).map fun i => (⟨at2 l (4 * i), at2 l (4 * i + 2)⟩ : Gap)
  | a :: b :: c :: d :: l => by
    rw [gapsOf, gapsOf_range l]
    have e : (a :: b :: c :: d :: l).length / 4 = l.length / 4 + 1 := by simp only [List.length_cons]; omega
    rw [e, List.range_succ_eq_map, List.map_cons, List.map_map]
    refine congr (congrArg List.cons rfl) ?_
    refine List.map_congr_left fun i _ => ?_
    show (⟨at2 l (4 * i), at2 l (4 * i + 2)⟩ : Gap) = ⟨at2 (a :: b :: c :: d :: l) (4 * (i + 1)), at2 (a :: b :: c :: d :: l) (4 * (i + 1) + 2)⟩
    have e1 : 4 * (i + 1) = 4 * i + 1 + 1 + 1 + 1 := by omega
    have e2 : 4 * (i + 1) + 2 = (4 * i + 2) + 1 + 1 + 1 + 1 := by omega
    rw [e2, e1]
    unfold at2
    have e3 : 4 * i + 1 + 1 + 1 + 1 + 1 = (4 * i + 1) + 1 + 1 + 1 + 1 := by omega
    have e4 : 4 * i + 2 + 1 + 1 + 1 + 1 + 1 = (4 * i + 2 + 1) + 1 + 1 + 1 + 1 := by omega
    rw [e3, e4]
    simp only [List.getD_cons_succ]
  | [] => by simp [gapsOf]
  | [_] => by simp [gapsOf]
  | [_, _] => by simp [gapsOf]
  | [_, _, _] => by simp [gapsOf]
theorem at2_drop (s : List UInt8) (k i : Nat) : at2 (s.drop k) i = at2 s (k + i) := by
  unfold at2
  simp only [List.getD_eq_getElem?_getD, List.getElem?_drop, Nat.add_assoc]
def gapAt (s : List UInt8) (i : Nat) : Gap := ⟨at2 s (2 + 4 * i), at2 s (2 + 4 * i + 2)⟩
theorem gapsOf_body (s : List UInt8) : gapsOf (s.drop 2) = (List.range ((s.length - 2) / 4)).map (gapAt s) := by
  rw [gapsOf_range, List.length_drop]
  refine List.map_congr_left fun i _ => ?_
  simp only [gapAt, at2_drop, Nat.add_assoc]
theorem range_map_take {α : Type} (f : Nat → α) {n i : Nat} (h : i < n) : ((List.range n).map f).take (i + 1) = ((List.range n).map f).take i ++ [f i] := by
  rw [List.take_add_one]
  simp [h]
/-- What SackGet gives: the zero value, or a receipt with a block of its own. -/
theorem s_specSackGet0 (k : Chunk) (hs : k.body.length ≤ 1000000) : Spec Try.prog 181 0 [] [k.av] (fun r hp _ _ => (sackGet k = none ∧ r = .tup [.agg [.i 0, .r .nil], .bo false]) ∨ ∃ x b, sackGet k = some x ∧ r = .tup [.agg [.i x.cum, .sl b 0 x.gaps.length], .bo true] ∧ hget hp b = some (.row 2 (x.gaps.map Gap.row))) := by
  have hnone : (k.kind = 3 → k.flags = 0 → k.body.length % 4 = 2 → sackB (sackOf k) = true → False) → sackGet k = none := fun h => by
    unfold sackGet
    rw [if_neg]
    simp only [Bool.and_eq_true, decide_eq_true_eq]
    rintro ⟨⟨⟨h1, h2⟩, h3⟩, h4⟩
    exact h h1 h2 h3 h4
  have hsome : k.kind = 3 → k.flags = 0 → k.body.length % 4 = 2 → sackB (sackOf k) = true → sackGet k = some (sackOf k) := fun h1 h2 h3 h4 => by
    unfold sackGet
    rw [if_pos]
    simp only [Bool.and_eq_true, decide_eq_true_eq]
    exact ⟨⟨⟨h1, h2⟩, h3⟩, h4⟩
  refine mr181 rfl fun c hP hm => ?_
  unfold pc181 Chunk.av
  refine run_seq (run_wpc _ _ _ _ _ ?_)
  simp only [hm, go_sem, ↓reduceIte]
  refine run_seq (run_wpc _ _ _ _ _ ?_)
  simp only [hm, go_sem, ↓reduceIte]
  rw [tmod_nn (by omega)]
  repeat' first | refine And.intro ?_ ?_ | intro _
  all_goals first
    | (left; refine hnone fun h1 h2 h3 h4 => ?_; omega)
    | (left; refine ⟨hnone fun h1 h2 h3 h4 => ?_, rfl⟩; omega)
    | skip
  rename_i hk hf hmod
  refine run_seq (run_wpc _ _ _ _ _ ?_)
  simp only [hm, go_sem, ↓reduceIte]
  refine c_l1At hP (by omega) (by omega) ?_
  simp only [hm, go_sem, ↓reduceIte]
  refine run_seq (run_wpc _ _ _ _ _ ?_)
  simp only [hm, go_sem, ↓reduceIte]
  have hgs : (sackOf k).gaps = (List.range ((k.body.length - 2) / 4)).map (gapAt k.body) := gapsOf_body k.body
  have hlen : (sackOf k).gaps.length = (k.body.length - 2) / 4 := by rw [hgs]; simp
  have hcum : (sackOf k).cum = at2 k.body 0 := rfl
  have hnn : (k.body.length - 2) / 4 * 4 + 2 = k.body.length := by omega
  generalize hn : (k.body.length - 2) / 4 = n at hlen hgs hnn
  refine run_exit 0 (fun t0 => t0 = ⟨[(2, .ptr 1 0 0), (4, .ptr 3 0 0)], [(1, .var [.i 0, .r .nil]), (3, .var [.i (at2 k.body 0), .sl 2 0 n]), (2, .row 2 ((sackOf k).gaps.map Gap.row))], 4, []⟩) ?_ ?_
  · refine lp_wpc (α := Nat) (fun i => ⟨[(1, .ptr 0 0 0), (2, .ptr 1 0 0), (4, .ptr 3 0 0), (5, .i (2 + 4 * (i : Int)))], [(0, .var [.i k.kind, .i k.flags, .st k.body]), (1, .var [.i 0, .r .nil]), (3, .var [.i (at2 k.body 0), .sl 2 0 i]), (2, .row 2 (((sackOf k).gaps.take i).map Gap.row))], 4, []⟩)
      (fun i => i ≤ n) (fun i => n - i) 0 (Nat.zero_le _) (by rw [List.take_zero]; simp only [List.map_nil]; (refine le_ev [] ?_; simp only [hm, go_sem, ↓reduceIte]; first | done | rfl | exact ⟨rfl, rfl⟩)) ?_
    intro i hi
    unfold pc181l0
    rcases Nat.lt_or_ge i n with hil | hil
    · have htk := range_map_take (gapAt k.body) hil
      rw [← hgs] at htk
      have hl : ((sackOf k).gaps.take i).length = i := by rw [List.length_take]; omega
      generalize (sackOf k).gaps.take i = gs at htk hl
      have hrt : List.take i (gs.map Gap.row) = gs.map Gap.row := List.take_of_length_le (by simp; omega)
      have hw4 : IntKind.i64.wrap (2 + 4 * (i : Int) + 4) = 2 + 4 * ((i + 1 : Nat) : Int) := by rw [wrap64 (by omega) (by omega)]; omega
      have hw2 : IntKind.i64.wrap (2 + 4 * (i : Int) + 2) = 2 + 4 * (i : Int) + 2 := wrap64 (by omega) (by omega)
      have e1 : (2 + 4 * (i : Int)).toNat = 2 + 4 * i := by omega
      have e2 : (2 + 4 * (i : Int) + 2).toNat = 2 + 4 * i + 2 := by omega
      simp only [hw4, hw2, hrt, hm, go_sem, ↓reduceIte]
      repeat' first
        | refine And.intro ?_ ?_
        | intro _
        | (refine c_l1At hP (by omega) (by omega) ?_; simp only [hw4, hw2, hrt, e1, e2, hm, go_sem, ↓reduceIte])
      all_goals first
        | omega
        | (simp only [List.length_map]; omega)
        | (refine ⟨i + 1, hil, by omega, ?_⟩
           rw [htk]
           simp only [List.map_append, List.map_cons, List.map_nil, Gap.row, gapAt]
           (refine le_ev [] ?_; simp only [hm, go_sem, ↓reduceIte]; first | done | rfl | exact ⟨rfl, rfl⟩))
    · have : i = n := by omega
      subst this
      have htl : (sackOf k).gaps.take i = (sackOf k).gaps := by rw [← hlen, List.take_length]
      rw [htl]
      simp only [hm, go_sem, ↓reduceIte]
      repeat' first | refine And.intro ?_ ?_ | intro _
      all_goals first
        | omega
        | (refine ⟨_, rfl, ?_⟩; (refine le_ev [] ?_; simp only [hm, go_sem, ↓reduceIte]; first | done | rfl | exact ⟨rfl, rfl⟩))
  rintro t0 rfl
  have hcs := s_l12Sack (sackOf k) (by omega)
  unfold Sack.ro at hcs
  rw [← hcum, ← hlen]
  generalize hso : sackOf k = so at *
  refine run_wpc _ _ _ _ _ ?_
  simp only [hm, go_sem, ↓reduceIte]
  refine call_flat (hP ▸ hcs) rfl (.cons (vw_agg (.cons (vw_self _ _ rfl) (.cons (Vw.full rfl (by simp)) .nil))) .nil) ?_
  simp only [hm, go_sem, ↓reduceIte]
  repeat' first | refine And.intro ?_ ?_ | intro _
  all_goals first
    | omega
    | (rename_i hb; left; refine ⟨hnone fun h1 h2 h3 h4 => ?_, rfl⟩; rw [hb] at h4; cases h4)
    | (rename_i hb; left; refine hnone fun h1 h2 h3 h4 => ?_; rw [hb] at h4; cases h4)
    | (rename_i hb; right; exact ⟨so, 2, hsome (by omega) (by omega) (by omega) hb, rfl, rfl⟩)
theorem s_specSackGet (k : Chunk) (hs : k.body.length ≤ 1000000) : Spec Try.prog 181 0 [] [k.av] (Plain fun r => r = .tup [((sackGet k).getD noSack).ro, .bo (sackGet k).isSome]) := by
  refine Spec.le (s_specSackGet0 k hs) fun r hp nx gs h => ⟨_, [], 0, [], ⟨rfl, rfl, rfl, rfl⟩, fun c hc => ?_⟩
  rcases h with ⟨h, rfl⟩ | ⟨x, b, h, rfl, hb⟩
  · rw [h]
    refine Le.trans (t := ⟨[(0, .tup [.agg [.i 0, .r .nil], .bo false])], [], 0, []⟩) (le_ev [] (by simp only [hc, go_sem, ↓reduceIte])) le_denil
  · rw [h]
    refine Le.trans (t := ⟨[(0, .tup [.agg [.i x.cum, .sl 0 0 x.gaps.length], .bo true])], [(0, .row 2 (x.gaps.map Gap.row))], 1, []⟩) (le_ev [(0, b)] (by simp only [hc, go_sem, ↓reduceIte, hb])) ?_
    refine Le.trans (le_frz 0 rfl (by simp only [List.length_map, go_sem, ↓reduceIte]) (by simp only [go_sem, ↓reduceIte])) ?_
    simp only [take_map_len, List.drop_zero, go_sem, ↓reduceIte]
    exact le_ev [] (by simp only [hc, Option.getD_some, Option.isSome_some, Sack.ro, go_sem, ↓reduceIte])
theorem lastTo_eq {l : List Gap} (h : 0 < l.length) : lastTo l = (l[l.length - 1]'(by omega)).to := by
  unfold lastTo
  rw [List.getLast?_eq_getElem?, List.getElem?_eq_getElem (by omega)]
theorem gapsB_to : ∀ {l : List Gap} {last : Int}, 0 ≤ last → gapsB last l = true → ∀ g ∈ l, 0 ≤ g.to ∧ g.to ≤ 16
  | [], _, _, _, g, hg => by cases hg
  | x :: l, last, h0, h, g, hg => by
    simp only [gapsB, Bool.and_eq_true, decide_eq_true_eq] at h
    rcases List.mem_cons.1 hg with rfl | hg
    · omega
    · exact gapsB_to (l := l) (last := x.to) (by omega) h.2 g hg
end Go.Cap

/- Contracts: the reference takes receipts. -/
namespace Go.Cap
open Go Go.Proofs
set_option maxRecDepth 100000
set_option linter.unusedSimpArgs false
set_option linter.unusedVariables false
attribute [local irreducible] Call Run Spec Le

theorem s_l31Sack (a : Assoc) (byB : Bool) (k : Chunk) (hs : k.body.length ≤ 1000000) (hw : AW a) : Spec Try.prog 168 0 [] [a.ro, .bo byB, k.av] (fun r _ _ _ => r = resA (stepSack a byB k)) := by
  have hS := s_l31Side a byB
  have hG := s_specSackGet k hs
  have hW := fun s => s_l31With a (!byB) s
  obtain ⟨⟨f0, f1⟩, hl, hd⟩ := hw.other byB
  refine mr168 rfl fun c hP hm => ?_
  unfold pc168
  have hu : a.ro = .agg [.i a.fr, .i a.to, .i a.state, .bo a.byB, .i a.a.tag, .i a.a.streams, .i a.a.first, .r (.ro none (a.a.sent.map Data.row)), .i a.a.acked, .i a.b.tag, .i a.b.streams, .i a.b.first, .r (.ro none (a.b.sent.map Data.row)), .i a.b.acked] := rfl
  rw [hu] at hS hW ⊢
  unfold Chunk.av at hG ⊢
  unfold stepSack
  refine run_seq (run_wpc _ _ _ _ _ ?_)
  simp only [hm, go_sem, ↓reduceIte]
  refine run_seq (run_wpc _ _ _ _ _ ?_)
  simp only [hm, go_sem, ↓reduceIte]
  refine call_dataP (hP ▸ hG) (by cases sackGet k <;> rfl) rfl ?_
  cases hg : sackGet k with
  | none =>
    simp only [Option.getD_none, Option.isSome_none, noSack, Sack.ro, List.map_nil, hm, go_sem, ↓reduceIte]
    refine run_seq (run_wpc _ _ _ _ _ ?_)
    simp only [hm, go_sem, ↓reduceIte]
    refine call_data (hP ▸ hS) (by cases byB <;> rfl) rfl ?_
    generalize a.own byB = o'
    generalize a.other byB = o at f0 f1 hl hd
    simp only [Side.ro, Side.av, hm, go_sem, ↓reduceIte]
    refine run_wpc _ _ _ _ _ ?_
    simp only [inB_dec, hm, go_sem, ↓reduceIte]
    repeat' first
      | refine And.intro ?_ ?_
      | intro _
      | (refine c_l6In hP ?_; simp only [inB_dec, hm, go_sem, ↓reduceIte])
    all_goals first
      | omega
      | (refine resA_a ?_
         try simp only [inB_dec, Bool.and_eq_true, Bool.or_eq_true, decide_eq_true_eq, Bool.not_eq_true', Bool.or_eq_false_iff, Bool.and_eq_false_iff, decide_eq_false_iff_not, Bool.and_true, Bool.and_false, Bool.or_false, Bool.false_or, Bool.not_true, Bool.not_false, Bool.true_and, Bool.false_and, bne_self_eq_false, Bool.false_bne, Bool.true_bne]
         repeat' split
         all_goals first
           | rfl
           | (exfalso; omega)
           | (exfalso; simp_all; done)
           | (exfalso; simp_all; omega)
           | (simp only [Int.max_def]; split <;> first | rfl | (exfalso; omega) | (congr 3; omega)))

  | some x =>
    have hx := sackGet_ok hg
    simp only [sackB, serialB, Bool.and_eq_true, decide_eq_true_eq] at hx
    have hto := gapsB_to (by decide) hx.2
    simp only [Option.getD_some, Option.isSome_some, Sack.ro, hm, go_sem, ↓reduceIte]
    refine run_seq (run_wpc _ _ _ _ _ ?_)
    simp only [hm, go_sem, ↓reduceIte]
    refine call_data (hP ▸ hS) (by cases byB <;> rfl) rfl ?_
    generalize a.own byB = o'
    generalize hoo : a.other byB = o at *
    have hr := l3_range o.first (-1)
    have hA := s_l3Add o.first (-1) ⟨f0, f1⟩
    have hD := s_l3Diff (l3 o.first (-1)) x.cum hr (by omega)
    have hE : -32768 ≤ l3d (l3 o.first (-1)) x.cum ∧ l3d (l3 o.first (-1)) x.cum ≤ 32768 := by
      have := l3_range x.cum (-(l3 o.first (-1)))
      unfold l3d; split <;> omega
    generalize l3d (l3 o.first (-1)) x.cum = e at *
    simp only [Side.ro, Side.av, hm, go_sem, ↓reduceIte]
    refine run_seq (run_wpc _ _ _ _ _ ?_)
    simp only [inB_dec, hm, go_sem, ↓reduceIte]
    refine c_l6In hP ?_
    simp only [inB_dec, hm, go_sem, ↓reduceIte]
    refine ⟨fun hst => ?_, fun hst => ?_⟩
    · have hstp : ¬ (4 ≤ a.state ∧ a.state ≤ 5) := by first | exact hst | omega
      refine resA_a ?_
      rw [if_pos (by simp [inB_dec]; omega)]
    refine run_seq (run_wpc _ _ _ _ _ ?_)
    simp only [hm, go_sem, ↓reduceIte]
    refine call_pure (hP ▸ hA) rfl rfl ?_
    simp only [hm, go_sem, ↓reduceIte]
    refine call_pure (hP ▸ hD) rfl rfl ?_
    simp only [hm, go_sem, ↓reduceIte]
    rw [if_neg (by omega)]
    have hst' : ¬ ¬ (4 ≤ a.state ∧ a.state ≤ 5) := by first | exact hst | omega
    clear hA hD hG hS hd hg
    refine run_seq (run_wpc _ _ _ _ _ ?_)
    simp only [hm, go_sem, ↓reduceIte]
    refine run_join (fun t => t = ⟨[(1, .bo byB), (3, .ptr 0 0 0), (6, .ptr 2 0 0), (11, .ptr 5 0 0), (12, .i e), (13, .i (e + lastTo x.gaps))], [(5, .var [.i o.tag, .i o.streams, .i o.first, .r (.ro none (o.sent.map Data.row)), .i o.acked]), (2, .var [.i 0, .i 0, .i 0, .bo false, .i 0, .i 0, .i 0, .r .nil, .i 0, .i 0, .i 0, .i 0, .r .nil, .i 0]), (0, .var [.i a.fr, .i a.to, .i a.state, .bo a.byB, .i a.a.tag, .i a.a.streams, .i a.a.first, .r (.ro none (a.a.sent.map Data.row)), .i a.a.acked, .i a.b.tag, .i a.b.streams, .i a.b.first, .r (.ro none (a.b.sent.map Data.row)), .i a.b.acked])], 6, []⟩) (run_wpc _ _ _ _ _ ?_) ?_
    · rcases Nat.eq_zero_or_pos x.gaps.length with h0 | h0
      · have hgn : x.gaps = [] := List.length_eq_zero_iff.1 h0
        have hlt : lastTo x.gaps = 0 := by rw [hgn]; rfl
        rw [hlt, hgn]
        simp only [List.map_nil, List.length_nil, hm, go_sem, ↓reduceIte]
        repeat' first | refine And.intro ?_ ?_ | intro _
        all_goals first
          | omega
          | (refine ⟨_, rfl, ?_⟩; rw [Int.add_zero]; (refine le_ev [] ?_; simp only [hm, go_sem, ↓reduceIte]; first | done | rfl | exact ⟨rfl, rfl⟩))
      · have hil : x.gaps.length - 1 < x.gaps.length := by omega
        have hgt := getD_map (f := Gap.row) hil
        have hwl : IntKind.i64.wrap ((x.gaps.length : Int) - 1) = ((x.gaps.length - 1 : Nat) : Int) := by rw [wrap64 (by omega) (by omega)]; omega
        have hlt := lastTo_eq h0
        have hmem := hto _ (List.getElem_mem hil)
        generalize x.gaps[x.gaps.length - 1] = g at *
        rw [hlt]
        have hwe : IntKind.i64.wrap (e + g.to) = e + g.to := wrap64 (by omega) (by omega)
        simp only [hwl, hwe, hgt, Int.toNat_natCast, List.length_map, Gap.row, hm, go_sem, ↓reduceIte]
        repeat' first | refine And.intro ?_ ?_ | intro _
        all_goals first
          | omega
          | (refine ⟨_, rfl, ?_⟩; (refine le_ev [] ?_; simp only [hm, go_sem, ↓reduceIte]; first | done | rfl | exact ⟨rfl, rfl⟩))
    rintro t rfl
    generalize e + lastTo x.gaps = mo
    have hmx : (if e > o.acked then e else o.acked) = max o.acked e := by rw [Int.max_def]; split <;> split <;> omega
    refine run_wpc _ _ _ _ _ ?_
    cases byB
    all_goals
      simp only [Bool.not_true, Bool.not_false] at hW
      simp only [hmx, inB_dec, hm, go_sem, ↓reduceIte]
      repeat' first
        | refine And.intro ?_ ?_
        | intro _
        | (refine c_l6In hP ?_; simp only [hmx, inB_dec, hm, go_sem, ↓reduceIte])
        | (refine call_data (hP ▸ hW { o with acked := max o.acked e }) rfl rfl ?_; simp only [Assoc.ro, Assoc.av, hm, go_sem, ↓reduceIte])
    all_goals first
      | omega
      | (refine resA_a ?_
         try simp only [inB_dec, Bool.and_eq_true, Bool.or_eq_true, decide_eq_true_eq, Bool.not_eq_true', Bool.or_eq_false_iff, Bool.and_eq_false_iff, decide_eq_false_iff_not, Bool.and_true, Bool.and_false, Bool.or_false, Bool.false_or, Bool.not_true, Bool.not_false, Bool.true_and, Bool.false_and, bne_self_eq_false, Bool.false_bne, Bool.true_bne]
         repeat' split
         all_goals first
           | rfl
           | (exfalso; omega)
           | (exfalso; simp_all; done)
           | (exfalso; simp_all; omega))
end Go.Cap

/- Contracts: a chunk, the tag, a packet alone, and the step of an association (the reference's). -/
namespace Go.Cap
open Go Go.Proofs
set_option maxRecDepth 100000
set_option linter.unusedSimpArgs false
set_option linter.unusedVariables false
attribute [local irreducible] Call Run Spec Le

theorem s_l31Chunk (a : Assoc) (byB : Bool) (k : Chunk) (hs : k.body.length ≤ 1000000) (hw : AW a) : Spec Try.prog 122 0 [] [a.ro, .bo byB, k.av] (fun r _ _ _ => r = resA (stepChunk a byB k)) := by
  have h1 := s_l31Init a byB k (by omega)
  have h2 := s_l31Data a byB k (by omega) hw
  have h3 := s_l31Sack a byB k hs hw
  have h4 := s_l31End a byB k.kind
  have h5 := s_l31Cookie a byB k.kind
  refine mk122 rfl fun c hP hm => ?_
  unfold pc122
  unfold Chunk.av at h1 h2 h3 ⊢
  have hu : a.ro = .agg [.i a.fr, .i a.to, .i a.state, .bo a.byB, .i a.a.tag, .i a.a.streams, .i a.a.first, .r (.ro none (a.a.sent.map Data.row)), .i a.a.acked, .i a.b.tag, .i a.b.streams, .i a.b.first, .r (.ro none (a.b.sent.map Data.row)), .i a.b.acked] := rfl
  rw [hu] at h1 h2 h3 h4 h5 ⊢
  unfold stepChunk
  generalize stepInit a byB k = r1 at h1
  generalize stepData a byB k = r2 at h2
  generalize stepSack a byB k = r3 at h3
  generalize stepEnd a byB k.kind = r4 at h4
  generalize stepRest a byB k.kind = r5 at h5
  unfold resA Assoc.ro Assoc.av at h1 h2 h3 h4 h5
  simp only [hm, go_sem, ↓reduceIte]
  repeat' first
    | refine And.intro ?_ ?_
    | intro _
    | (refine call_data (hP ▸ h1) rfl rfl ?_; simp only [hm, go_sem, ↓reduceIte])
    | (refine call_data (hP ▸ h2) rfl rfl ?_; simp only [hm, go_sem, ↓reduceIte])
    | (refine call_data (hP ▸ h3) rfl rfl ?_; simp only [hm, go_sem, ↓reduceIte])
    | (refine call_data (hP ▸ h4 (by omega)) rfl rfl ?_; simp only [hm, go_sem, ↓reduceIte])
    | (refine call_data (hP ▸ h5) rfl rfl ?_; simp only [hm, go_sem, ↓reduceIte])
  all_goals first
    | omega
    | (refine resA_a ?_
       repeat' split
       all_goals first
         | rfl
         | (exfalso; omega))
theorem s_l31Tag (a : Assoc) (byB : Bool) (p : Packet) (hl : p.chunks.length ≤ 2000000) : Spec Try.prog 121 0 [] [a.ro, .bo byB, p.ro] (fun r _ _ _ => r = .i (tagOf a byB p)) := by
  have hS := s_l31Side a byB
  unfold tagOf
  refine mr121 rfl fun c hP hm => ?_
  unfold pc121
  unfold Assoc.ro Assoc.av at hS ⊢
  unfold Packet.ro
  refine run_seq (run_wpc _ _ _ _ _ ?_)
  simp only [hm, go_sem, ↓reduceIte]
  refine run_seq (run_wpc _ _ _ _ _ ?_)
  simp only [hm, go_sem, ↓reduceIte]
  refine run_exit 0 (fun t0 => t0 = ⟨[(1, .bo byB), (3, .ptr 0 0 0)], [(0, .var [.i a.fr, .i a.to, .i a.state, .bo a.byB, .i a.a.tag, .i a.a.streams, .i a.a.first, .r (.ro none (a.a.sent.map Data.row)), .i a.a.acked, .i a.b.tag, .i a.b.streams, .i a.b.first, .r (.ro none (a.b.sent.map Data.row)), .i a.b.acked])], 1, []⟩ ∧ p.chunks.any (fun c => decide (c.kind = 1)) = false) ?_ ?_
  · refine lp_wpc (α := Nat) (fun i => ⟨[(1, .bo byB), (3, .ptr 0 0 0), (5, .ptr 1 0 0), (7, .i i)], [(0, .var [.i a.fr, .i a.to, .i a.state, .bo a.byB, .i a.a.tag, .i a.a.streams, .i a.a.first, .r (.ro none (a.a.sent.map Data.row)), .i a.a.acked, .i a.b.tag, .i a.b.streams, .i a.b.first, .r (.ro none (a.b.sent.map Data.row)), .i a.b.acked]), (1, .var [.i p.fr, .i p.to, .i p.tag, .r (.ro none (p.chunks.map Chunk.row))])], 2, []⟩)
      (fun i => i ≤ p.chunks.length ∧ ∀ c ∈ p.chunks.take i, c.kind ≠ 1) (fun i => p.chunks.length - i) 0 ⟨Nat.zero_le _, fun c hc => by simp at hc⟩ (by (refine le_ev [] ?_; simp only [hm, go_sem, ↓reduceIte]; first | done | rfl | exact ⟨rfl, rfl⟩)) ?_
    rintro i ⟨hi, hI⟩
    unfold pc121l0
    rcases Nat.lt_or_ge i p.chunks.length with hil | hil
    · have hw : IntKind.i64.wrap ((i : Int) + 1) = ((i + 1 : Nat) : Int) := by rw [wrap64 (by omega) (by omega)]; omega
      have hg := getD_map (f := Chunk.row) hil
      have htk := take_get hil
      have hmem := List.getElem_mem hil
      generalize p.chunks[i] = x at hg htk hmem
      simp only [hw, Int.toNat_natCast, hg, Chunk.row, hm, go_sem, ↓reduceIte]
      repeat' first | refine And.intro ?_ ?_ | intro _
      all_goals first
        | omega
        | rfl
        | (rename_i hk; rw [if_pos (List.any_eq_true.2 ⟨x, hmem, by simp [hk]⟩)])
        | (rename_i hk
           refine ⟨i + 1, ⟨hil, fun y hy => ?_⟩, by omega, ?_⟩
           · rw [htk] at hy
             rcases List.mem_append.1 hy with hy | hy
             · exact hI y hy
             · simp only [List.mem_singleton] at hy; subst hy; exact hk
           · (refine le_ev [] ?_; simp only [hm, go_sem, ↓reduceIte]; first | done | rfl | exact ⟨rfl, rfl⟩))
    · have : i = p.chunks.length := by omega
      subst this
      rw [List.take_length] at hI
      have hall : p.chunks.any (fun c => decide (c.kind = 1)) = false := by
        rw [Bool.eq_false_iff]
        intro h
        obtain ⟨x, hx, hk⟩ := List.any_eq_true.1 h
        exact hI x hx (by simpa using hk)
      simp only [hm, go_sem, ↓reduceIte]
      repeat' first | refine And.intro ?_ ?_ | intro _
      all_goals first
        | omega
        | (refine ⟨_, ⟨rfl, hall⟩, ?_⟩; (refine le_ev [] ?_; simp only [hm, go_sem, ↓reduceIte]; first | done | rfl | exact ⟨rfl, rfl⟩))
  rintro t0 ⟨rfl, hA⟩
  rw [hA]
  refine run_wpc _ _ _ _ _ ?_
  simp only [hm, go_sem, ↓reduceIte]
  refine call_data (hP ▸ hS) (by cases byB <;> rfl) rfl ?_
  generalize a.own byB = o'
  generalize a.other byB = o
  simp only [Side.ro, Side.av, Bool.false_eq_true, if_false, hm, go_sem, ↓reduceIte]
theorem s_l13Alone (k : Int) : Spec Try.prog 164 0 [] [.i k] (fun r _ _ _ => r = .bo (aloneK k)) := by
  refine mk164 rfl fun c hP hm => ?_
  unfold pc164
  simp only [hm, go_sem, ↓reduceIte]
  repeat' first | refine And.intro ?_ ?_ | intro _
  all_goals (apply bo_inj; simp [aloneK, beq_dec, *])
theorem s_specPacketAlone (p : Packet) (hl : p.chunks.length ≤ 2000000) : Spec Try.prog 120 0 [] [p.ro] (fun r _ _ _ => r = .bo (aloneB p)) := by
  refine mr120 rfl fun c hP hm => ?_
  unfold pc120 Packet.ro
  refine run_seq (run_wpc _ _ _ _ _ ?_)
  simp only [hm, go_sem, ↓reduceIte]
  refine run_seq (run_wpc _ _ _ _ _ ?_)
  simp only [hm, go_sem, ↓reduceIte]
  refine run_exit 0 (fun t0 => t0 = ⟨[(1, .ptr 0 0 0)], [(0, .var [.i p.fr, .i p.to, .i p.tag, .r (.ro none (p.chunks.map Chunk.row))])], 1, []⟩ ∧ ∀ c ∈ p.chunks, aloneK c.kind = true → p.chunks.length ≤ 1) ?_ ?_
  · refine lp_wpc (α := Nat) (fun i => ⟨[(1, .ptr 0 0 0), (3, .i i)], [(0, .var [.i p.fr, .i p.to, .i p.tag, .r (.ro none (p.chunks.map Chunk.row))])], 1, []⟩)
      (fun i => i ≤ p.chunks.length ∧ ∀ c ∈ p.chunks.take i, aloneK c.kind = true → p.chunks.length ≤ 1) (fun i => p.chunks.length - i) 0 ⟨Nat.zero_le _, fun c hc => by simp at hc⟩ (by (refine le_ev [] ?_; simp only [hm, go_sem, ↓reduceIte]; first | done | rfl | exact ⟨rfl, rfl⟩)) ?_
    rintro i ⟨hi, hI⟩
    unfold pc120l0
    rcases Nat.lt_or_ge i p.chunks.length with hil | hil
    · have hw : IntKind.i64.wrap ((i : Int) + 1) = ((i + 1 : Nat) : Int) := by rw [wrap64 (by omega) (by omega)]; omega
      have hg := getD_map (f := Chunk.row) hil
      have htk := take_get hil
      have hmem := List.getElem_mem hil
      generalize p.chunks[i] = x at hg htk hmem
      have hbad : aloneK x.kind = true → 1 < p.chunks.length → AV.r (RV.b false) = AV.bo (aloneB p) := fun h1 h2 => by
        apply bo_inj; symm; rw [Bool.eq_false_iff]; intro hh
        simp only [aloneB, Bool.and_eq_true, Bool.or_eq_true, decide_eq_true_eq, List.all_eq_true] at hh
        rcases hh.2 with h | h
        · omega
        · have := h x hmem; rw [h1] at this; cases this
      have hstep : (aloneK x.kind = true → p.chunks.length ≤ 1) → ∀ c ∈ p.chunks.take (i + 1), aloneK c.kind = true → p.chunks.length ≤ 1 := fun h c hc => by
        rw [htk] at hc
        rcases List.mem_append.1 hc with hc | hc
        · exact hI c hc
        · simp only [List.mem_singleton] at hc; subst hc; exact h
      simp only [hw, Int.toNat_natCast, hg, Chunk.row, hm, go_sem, ↓reduceIte]
      repeat' first | refine And.intro ?_ ?_ | intro _ | (refine call_pure (hP ▸ s_l13Alone x.kind) rfl rfl ?_; simp only [hw, Int.toNat_natCast, hg, Chunk.row, hm, go_sem, ↓reduceIte])
      all_goals first
        | omega
        | rfl
        | exact hbad (by assumption) (by omega)
        | (refine ⟨i + 1, ⟨hil, hstep fun h => by omega⟩, by omega, ?_⟩; (refine le_ev [] ?_; simp only [hm, go_sem, ↓reduceIte]; first | done | rfl | exact ⟨rfl, rfl⟩))
        | (rename_i hk; refine ⟨i + 1, ⟨hil, hstep fun h => by rw [hk] at h; cases h⟩, by omega, ?_⟩; (refine le_ev [] ?_; simp only [hm, go_sem, ↓reduceIte]; first | done | rfl | exact ⟨rfl, rfl⟩))
    · have : i = p.chunks.length := by omega
      subst this
      rw [List.take_length] at hI
      simp only [hm, go_sem, ↓reduceIte]
      repeat' first | refine And.intro ?_ ?_ | intro _
      all_goals first
        | omega
        | (refine ⟨_, ⟨rfl, hI⟩, ?_⟩; (refine le_ev [] ?_; simp only [hm, go_sem, ↓reduceIte]; first | done | rfl | exact ⟨rfl, rfl⟩))
  rintro t0 ⟨rfl, hG⟩
  have hal : aloneB p = packB p := by
    unfold aloneB
    cases hb : packB p
    · rfl
    · rw [Bool.true_and, Bool.or_eq_true, decide_eq_true_eq, List.all_eq_true]
      have hn : 1 ≤ p.chunks.length := by
        simp only [packB, Bool.and_eq_true, decide_eq_true_eq] at hb; omega
      by_cases h : p.chunks.length = 1
      · exact .inl h
      · right
        intro x hx
        cases hk : aloneK x.kind
        · rfl
        · have := hG x hx hk; omega
  have hpv := s_specPacketValid p hl
  unfold Packet.ro at hpv
  rw [hal]
  refine run_wpc _ _ _ _ _ ?_
  simp only [hm, go_sem, ↓reduceIte]
  refine call_pure (hP ▸ hpv) rfl rfl ?_
  simp only [hm, go_sem, ↓reduceIte]
theorem s_l31Side2 (s : Side) (hl : s.sent.length ≤ 1000000) : Spec Try.prog 123 0 [] [s.ro] (fun r _ _ _ => r = s.ro) := by
  refine mr123 rfl fun c hP hm => ?_
  unfold pc123 Side.ro Side.av
  refine run_seq (run_wpc _ _ _ _ _ ?_)
  simp only [hm, go_sem, ↓reduceIte]
  refine run_seq (run_wpc _ _ _ _ _ ?_)
  simp only [hm, go_sem, ↓reduceIte]
  refine ⟨⟨fun r hr => by obtain ⟨d, _, rfl⟩ := List.mem_map.1 hr; rfl, by omega⟩, ?_⟩
  refine run_frz 2 rfl (by first | (simp only [hm, List.length_map, go_sem, ↓reduceIte]; done) | (simp only [hm, List.length_map, go_sem, ↓reduceIte]; omega)) (by first | (simp only [hm, List.length_map, go_sem, ↓reduceIte]; done) | (simp only [hm, List.length_map, go_sem, ↓reduceIte]; omega)) ?_; simp only [hm, take_map_len, List.drop_zero, go_sem, ↓reduceIte]
  refine run_wpc _ _ _ _ _ ?_
  simp only [hm, go_sem, ↓reduceIte]
theorem s_l31Copy (a : Assoc) (ha : a.a.sent.length ≤ 1000000) (hb : a.b.sent.length ≤ 1000000) : Spec Try.prog 60 0 [] [a.ro] (fun r _ _ _ => r = a.ro) := by
  refine mk60 rfl fun c hP hm => ?_
  unfold pc60 Assoc.ro Assoc.av
  simp only [hm, go_sem, ↓reduceIte]
  refine call_data (hP ▸ s_l31Side2 a.a ha) rfl rfl ?_
  simp only [Side.ro, Side.av, hm, go_sem, ↓reduceIte]
  refine call_data (hP ▸ s_l31Side2 a.b hb) rfl rfl ?_
  simp only [Side.ro, Side.av, hm, go_sem, ↓reduceIte]
/-- Which rules are broken, as rows. -/
def bRows (b : Nat → Bool) : List (List RV) := (List.range 12).map fun k => [RV.b (b k)]
theorem bRows_len (b : Nat → Bool) : (bRows b).length = 12 := by simp [bRows]
theorem bRows_get (b : Nat → Bool) {k : Nat} (h : k < 12) : (bRows b).getD k [] = [.b (b k)] := by
  simp [bRows, List.getD_eq_getElem?_getD, h]
theorem bRows_set {b b' : Nat → Bool} {n : Nat} (h : ∀ k, b' k = (b k || k == n)) : (bRows b).set n [.b true] = bRows b' := by
  refine List.ext_getElem (by simp [bRows]) fun k h1 h2 => ?_
  simp only [bRows, List.getElem_set, List.getElem_map, List.getElem_range, h]
  by_cases e : n = k
  · subst e; simp
  · have : ¬ k = n := fun e' => e e'.symm
    simp [e, this]
theorem brokenB_add (a : Assoc) (byB : Bool) (p : Packet) (rs : List Int) {r : Int} (hr : 0 ≤ r) (k : Nat) : brokenB a byB p (rs ++ [r]) k = (brokenB a byB p rs k || k == r.toNat) := by
  unfold brokenB
  have e : (rs ++ [r]).contains (k : Int) = (rs.contains (k : Int) || k == r.toNat) := by
    rw [Bool.eq_iff_iff]
    simp only [List.contains_iff_mem, List.mem_append, List.mem_singleton, Bool.or_eq_true, beq_iff_eq]
    constructor
    · rintro (h | h)
      · exact .inl h
      · right; omega
    · rintro (h | h)
      · exact .inl h
      · right; omega
  rw [e]
  cases (k == 1 && !aloneB p) <;> cases (k == 2 && decide (p.tag ≠ tagOf a byB p)) <;> simp
theorem stepInit_ok (a : Assoc) (byB : Bool) (c : Chunk) (h : AW a) : AW (stepInit a byB c).1 ∧ 0 ≤ (stepInit a byB c).2 ∧ (stepInit a byB c).2 ≤ 11 := by
  unfold stepInit
  simp only
  split
  · exact ⟨h, by simp, by simp⟩
  · cases hg : initGet c with
    | none => exact ⟨h, by simp, by simp⟩
    | some x =>
      simp only
      split
      · split
        · exact ⟨h, by simp, by simp⟩
        · exact ⟨h, by simp, by simp⟩
      · refine ⟨AW.put (a := { a with state := a.state + 1 }) h byB ?_, by simp, by simp⟩
        have := initGet_ok hg
        simp only [initB, serialB, Bool.and_eq_true, decide_eq_true_eq] at this
        exact ⟨by simp only; omega, by simp, by simp⟩
theorem stepData_ok (a : Assoc) (byB : Bool) (c : Chunk) (h : AW a) : AW (stepData a byB c).1 ∧ 0 ≤ (stepData a byB c).2 ∧ (stepData a byB c).2 ≤ 11 := by
  unfold stepData
  simp only
  split
  · exact ⟨h, by simp, by simp⟩
  · cases hg : dataGet c with
    | none => exact ⟨h, by simp, by simp⟩
    | some d =>
      simp only
      split
      · split
        · exact ⟨h, by simp, by simp⟩
        · exact ⟨h, by simp, by simp⟩
      split
      · exact ⟨h, by simp, by simp⟩
      split
      · exact ⟨h, by simp, by simp⟩
      split
      · exact ⟨h, by simp, by simp⟩
      split
      · exact ⟨h, by simp, by simp⟩
      split
      · exact ⟨h, by simp, by simp⟩
      · rename_i hlen
        obtain ⟨h1, h2, h3⟩ := h.own byB
        refine ⟨h.put byB ⟨h1, by simp only [List.length_append, List.length_cons, List.length_nil]; omega, fun x hx => ?_⟩, by simp, by simp⟩
        rcases List.mem_append.1 hx with hx | hx
        · exact h3 x hx
        · simp only [List.mem_singleton] at hx; subst hx; exact dataGet_ok hg
theorem stepSack_ok (a : Assoc) (byB : Bool) (c : Chunk) (h : AW a) : AW (stepSack a byB c).1 ∧ 0 ≤ (stepSack a byB c).2 ∧ (stepSack a byB c).2 ≤ 11 := by
  unfold stepSack
  simp only
  split
  · exact ⟨h, by simp, by simp⟩
  · cases hg : sackGet c with
    | none => exact ⟨h, by simp, by simp⟩
    | some x =>
      simp only
      split
      · exact ⟨h, by simp, by simp⟩
      · exact ⟨h.put (!byB) (h.other byB), by simp, by simp⟩
theorem stepEnd_ok (a : Assoc) (byB : Bool) (k : Int) (h : AW a) : AW (stepEnd a byB k).1 ∧ 0 ≤ (stepEnd a byB k).2 ∧ (stepEnd a byB k).2 ≤ 11 := by
  unfold stepEnd
  simp only
  repeat' split
  all_goals exact ⟨h, by simp, by simp⟩
theorem stepRest_ok (a : Assoc) (byB : Bool) (k : Int) (h : AW a) : AW (stepRest a byB k).1 ∧ 0 ≤ (stepRest a byB k).2 ∧ (stepRest a byB k).2 ≤ 11 := by
  unfold stepRest
  repeat' split
  all_goals exact ⟨h, by simp, by simp⟩
theorem stepChunk_ok (a : Assoc) (byB : Bool) (c : Chunk) (h : AW a) : AW (stepChunk a byB c).1 ∧ 0 ≤ (stepChunk a byB c).2 ∧ (stepChunk a byB c).2 ≤ 11 := by
  unfold stepChunk
  split
  · exact stepInit_ok a byB c h
  split
  · exact stepData_ok a byB c h
  split
  · exact stepSack_ok a byB c h
  split
  · exact stepEnd_ok a byB _ h
  · exact stepRest_ok a byB _ h
theorem stepChunks_append (byB : Bool) (c : Chunk) : ∀ (l : List Chunk) (a : Assoc) (rs : List Int), stepChunks byB (l ++ [c]) a rs = ((stepChunk (stepChunks byB l a rs).1 byB c).1, (stepChunks byB l a rs).2 ++ [(stepChunk (stepChunks byB l a rs).1 byB c).2])
  | [], a, rs => rfl
  | x :: l, a, rs => by simp only [List.cons_append, stepChunks]; exact stepChunks_append byB c l _ _
theorem stepChunks_ok (byB : Bool) : ∀ (l : List Chunk) (a : Assoc) (rs : List Int), AW a → AW (stepChunks byB l a rs).1
  | [], a, rs, h => h
  | c :: l, a, rs, h => by simp only [stepChunks]; exact stepChunks_ok byB l _ _ (stepChunk_ok a byB c h).1
abbrev Assoc.cellsA (a : Assoc) : List AV := [.i a.fr, .i a.to, .i a.state, .bo a.byB, .i a.a.tag, .i a.a.streams, .i a.a.first, .r (.ro none (a.a.sent.map Data.row)), .i a.a.acked, .i a.b.tag, .i a.b.streams, .i a.b.first, .r (.ro none (a.b.sent.map Data.row)), .i a.b.acked]
theorem s_l31Step (a : Assoc) (byB : Bool) (p : Packet) (hw : AW a) (hp : packB p = true) : Spec Try.prog 59 0 [] [a.ro, .bo byB, p.ro] (Plain fun r => r = .tup [(stepChunks byB p.chunks a []).1.ro, .r (.ro none (bRows (brokenB a byB p (stepChunks byB p.chunks a []).2)))]) := by
  have hpb := hp
  simp only [packB, Bool.and_eq_true, decide_eq_true_eq, List.all_eq_true, chunkB] at hpb
  have hcl : p.chunks.length ≤ 4 := by omega
  have hbody : ∀ x ∈ p.chunks, x.body.length ≤ 60 := fun x hx => (hpb.2 x hx).2
  have hal := s_specPacketAlone p (by omega)
  have htg := s_l31Tag a byB p (by omega)
  unfold Packet.ro at hal htg
  have hu : a.ro = .agg [.i a.fr, .i a.to, .i a.state, .bo a.byB, .i a.a.tag, .i a.a.streams, .i a.a.first, .r (.ro none (a.a.sent.map Data.row)), .i a.a.acked, .i a.b.tag, .i a.b.streams, .i a.b.first, .r (.ro none (a.b.sent.map Data.row)), .i a.b.acked] := rfl
  rw [hu] at htg
  refine Spec.plain ?_ rfl
  refine mr59 rfl fun c hP hm => ?_
  unfold pc59 Packet.ro
  rw [hu]
  refine run_seq (run_wpc _ _ _ _ _ ?_)
  simp only [hm, go_sem, ↓reduceIte]
  refine run_seq (run_wpc _ _ _ _ _ ?_)
  simp only [hm, go_sem, ↓reduceIte]
  refine ⟨by omega, ?_⟩
  refine run_seq (run_wpc _ _ _ _ _ ?_)
  simp only [hm, go_sem, ↓reduceIte]
  refine call_pure (hP ▸ hal) rfl rfl ?_
  simp only [hm, go_sem, ↓reduceIte]
  refine run_seq (run_wpc _ _ _ _ _ ?_)
  simp only [hm, go_sem, ↓reduceIte]
  refine call_pure (hP ▸ htg) rfl rfl ?_
  simp only [hm, go_sem, ↓reduceIte]
  have e : (p.tag != tagOf a byB p) = decide (p.tag ≠ tagOf a byB p) := by by_cases h : p.tag = tagOf a byB p <;> simp [h]
  have hr0 : [[.b false], [.b (!aloneB p)], [.b (p.tag != tagOf a byB p)], [.b false], [.b false], [.b false], [.b false], [.b false], [.b false], [.b false], [.b false], [.b false]] = bRows (brokenB a byB p []) := by
    rw [e]
    simp [bRows, brokenB, List.range, List.range.loop]
  simp only [hr0, hm, go_sem, ↓reduceIte]
  refine run_seq (run_wpc _ _ _ _ _ ?_)
  simp only [hm, go_sem, ↓reduceIte]
  refine run_seq (run_wpc _ _ _ _ _ ?_)
  simp only [hm, go_sem, ↓reduceIte]
  refine run_exit 0 (fun t0 => t0 = ⟨[(6, .ptr 2 0 0), (8, .sl 3 0 12), (9, .ptr 4 0 0)], [(2, .var [.i 0, .i 0, .i 0, .bo false, .i 0, .i 0, .i 0, .r .nil, .i 0, .i 0, .i 0, .i 0, .r .nil, .i 0]), (3, .row 1 (bRows (brokenB a byB p (stepChunks byB p.chunks a []).2))), (4, .var (stepChunks byB p.chunks a []).1.cellsA)], 5, []⟩) ?_ ?_
  · refine lp_wpc (α := Nat) (fun i => ⟨[(1, .bo byB), (5, .ptr 1 0 0), (6, .ptr 2 0 0), (8, .sl 3 0 12), (9, .ptr 4 0 0), (10, .i i)], [(1, .var [.i p.fr, .i p.to, .i p.tag, .r (.ro none (p.chunks.map Chunk.row))]), (2, .var [.i 0, .i 0, .i 0, .bo false, .i 0, .i 0, .i 0, .r .nil, .i 0, .i 0, .i 0, .i 0, .r .nil, .i 0]), (3, .row 1 (bRows (brokenB a byB p (stepChunks byB (p.chunks.take i) a []).2))), (4, .var (stepChunks byB (p.chunks.take i) a []).1.cellsA)], 5, []⟩)
      (fun i => i ≤ p.chunks.length) (fun i => p.chunks.length - i) 0 (Nat.zero_le _) (by simp only [List.take_zero, stepChunks, Assoc.cellsA]; (refine le_ev [] ?_; simp only [hm, go_sem, ↓reduceIte]; first | done | rfl | exact ⟨rfl, rfl⟩)) ?_
    intro i hi
    unfold pc59l0
    rcases Nat.lt_or_ge i p.chunks.length with hil | hil
    · have hw1 : IntKind.i64.wrap ((i : Int) + 1) = ((i + 1 : Nat) : Int) := by rw [wrap64 (by omega) (by omega)]; omega
      have hg := getD_map (f := Chunk.row) hil
      have htk := take_get hil
      have hbx := hbody _ (List.getElem_mem hil)
      have hok := stepChunks_ok byB (p.chunks.take i) a [] hw
      have hap := stepChunks_append byB p.chunks[i] (p.chunks.take i) a []
      rw [← htk] at hap
      generalize p.chunks[i] = x at hg hbx hap
      generalize (stepChunks byB (p.chunks.take i) a []).1 = o at hok hap
      generalize (stepChunks byB (p.chunks.take i) a []).2 = rs at hap
      have hch := s_l31Chunk o byB x (by omega) hok
      have hsr := (stepChunk_ok o byB x hok).2
      unfold resA at hch
      generalize stepChunk o byB x = y at hch hsr hap
      have hset : (bRows (brokenB a byB p rs)).set y.2.toNat [.b true] = bRows (brokenB a byB p (rs ++ [y.2])) := bRows_set fun k => brokenB_add a byB p rs hsr.1 k
      have hlr := bRows_len (brokenB a byB p rs)
      have hu2 : o.ro = .agg o.cellsA := rfl
      have hu3 : y.1.ro = .agg y.1.cellsA := rfl
      rw [hu2, hu3] at hch
      unfold Assoc.cellsA at hch ⊢
      unfold Chunk.av at hch
      simp only [hw1, Int.toNat_natCast, hg, Chunk.row, hm, go_sem, ↓reduceIte]
      repeat' first
        | refine And.intro ?_ ?_
        | intro _
        | (refine call_data (hP ▸ hch) rfl rfl ?_; simp only [hw1, hset, Int.toNat_natCast, hg, Chunk.row, hm, go_sem, ↓reduceIte])
      all_goals first
        | omega
        | (refine ⟨i + 1, hil, by omega, ?_⟩; rw [hap]; simp only [Assoc.cellsA]; (refine le_ev [] ?_; simp only [hm, go_sem, ↓reduceIte]; first | done | rfl | exact ⟨rfl, rfl⟩))
    · have : i = p.chunks.length := by omega
      subst this
      rw [List.take_length]
      simp only [hm, go_sem, ↓reduceIte]
      repeat' first | refine And.intro ?_ ?_ | intro _
      all_goals first
        | omega
        | (refine ⟨_, rfl, ?_⟩; (refine le_ev [] ?_; simp only [hm, go_sem, ↓reduceIte]; first | done | rfl | exact ⟨rfl, rfl⟩))
  rintro t0 rfl
  rw [if_pos rfl]
  have hu3 : (stepChunks byB p.chunks a []).1.ro = .agg (stepChunks byB p.chunks a []).1.cellsA := rfl
  rw [hu3]
  generalize (stepChunks byB p.chunks a []).1 = o
  have hlr := bRows_len (brokenB a byB p (stepChunks byB p.chunks a []).2)
  generalize bRows (brokenB a byB p (stepChunks byB p.chunks a []).2) = R at *
  have h12 : (12 : Nat) = R.length := hlr.symm
  unfold Assoc.cellsA
  rw [h12]
  refine run_frz 3 rfl (by first | (simp only [hm, List.length_map, go_sem, ↓reduceIte]; done) | (simp only [hm, List.length_map, go_sem, ↓reduceIte]; omega)) (by first | (simp only [hm, List.length_map, go_sem, ↓reduceIte]; done) | (simp only [hm, List.length_map, go_sem, ↓reduceIte]; omega)) ?_; simp only [hm, take_map_len, List.drop_zero, go_sem, ↓reduceIte]
  refine run_wpc _ _ _ _ _ ?_
  simp only [hm, go_sem, ↓reduceIte]
  rw [List.take_length]
end Go.Cap

/- Contracts: the step of an association (the reference's). -/
namespace Go.Cap
open Go Go.Proofs
set_option maxRecDepth 100000
set_option linter.unusedSimpArgs false
set_option linter.unusedVariables false
attribute [local irreducible] Call Run Spec Le

theorem sideLoop_data {add : Int → Int → Int} {s : Side} : ∀ {i : Nat} {l : List Data}, sideLoop add s i l = true → ∀ d ∈ l, dataB d = true
  | _, [], _, _, h => by cases h
  | i, x :: l, h, d, hd => by
    simp only [sideLoop, partB, Bool.and_eq_true] at h
    rcases List.mem_cons.1 hd with rfl | hd
    · exact h.1.1.1.1
    · exact sideLoop_data h.2 d hd
theorem sideB_SW {s : Side} (h : sideB s = true) : SW s := by
  unfold sideB at h
  split at h
  · simp only [noneB, Bool.and_eq_true, beq_iff_eq, decide_eq_true_eq] at h
    obtain ⟨⟨⟨_, h2⟩, h3⟩, _⟩ := h
    have : s.sent = [] := List.length_eq_zero_iff.1 h3
    exact ⟨by omega, by omega, by rw [this]; simp⟩
  · simp only [headB, Bool.and_eq_true, decide_eq_true_eq, serialB] at h
    exact ⟨by omega, by omega, sideLoop_data h.2⟩
theorem assocB_AW {a : Assoc} (h : assocB a = true) : AW a := by
  have := assocB_iff.1 h
  exact ⟨sideB_SW this.2.2.2.2.1, sideB_SW this.2.2.2.2.2.1⟩
/-- The rules up to a number. -/
def rulesTo (b : Nat → Bool) (n : Nat) : List Int := ((List.range n).filter fun k => decide (1 ≤ k) && b k).map fun (k : Nat) => (k : Int)
theorem rulesTo_12 (b : Nat → Bool) : rulesTo b 12 = rulesOf b := rfl
theorem rulesTo_1 (b : Nat → Bool) : rulesTo b 1 = [] := rfl
theorem rulesTo_succ (b : Nat → Bool) {n : Nat} (h : 1 ≤ n) : rulesTo b (n + 1) = rulesTo b n ++ if b n = true then [(n : Int)] else [] := by
  unfold rulesTo
  rw [List.range_succ, List.filter_append, List.map_append]
  congr 1
  cases hb : b n <;> simp [h, hb]
theorem rulesTo_le (b : Nat → Bool) (n : Nat) : (rulesTo b n).length ≤ n := by
  unfold rulesTo
  rw [List.length_map]
  exact Nat.le_trans (List.length_filter_le ..) (by simp)
def zeroA : AV := noAssoc.av (.r .nil) (.r .nil)
def AStepQ (x : Assoc × List Int) : AV → List (Nat × Blk) → Nat → List Nat → Prop := fun r hp _ _ =>
  ∃ b, hget hp b = some (.row 1 (x.2.map intRow)) ∧ (r = .tup [x.1.ro, .sl b 0 x.2.length] ∨ (x.1 = noAssoc ∧ r = .tup [zeroA, .sl b 0 x.2.length]))
theorem s_specAssocStep0 (a : Assoc) (p : Packet) (ha : SFit a.a) (hb : SFit a.b) (hl : p.chunks.length ≤ 2000000) : Spec Try.prog 22 0 [] [a.ro, p.ro] (AStepQ (assocStep a p)) := by
  have hav := s_specAssocValid a ha hb
  have hpv := s_specPacketValid p hl
  have hu : a.ro = .agg a.cellsA := rfl
  have hz : byBOf a p = (p.fr == a.to && p.to == a.fr) := by
    unfold byBOf
    rw [beq_dec, beq_dec, ← Bool.decide_and]
  refine mr22 rfl fun c hP hm => ?_
  unfold pc22
  unfold Packet.ro at hpv ⊢
  rw [hu] at hav ⊢
  unfold Assoc.cellsA at hav ⊢
  refine run_seq (run_wpc _ _ _ _ _ ?_)
  simp only [hm, go_sem, ↓reduceIte]
  refine run_join (fun t => t = ⟨[(2, .ptr 0 0 0), (3, .ptr 1 0 0), (4, .ptr 2 0 0), (6, .bo (byBOf a p))], [(2, .var [.i 0, .i 0, .i 0, .bo false, .i 0, .i 0, .i 0, .r .nil, .i 0, .i 0, .i 0, .i 0, .r .nil, .i 0]), (1, .var [.i p.fr, .i p.to, .i p.tag, .r (.ro none (p.chunks.map Chunk.row))]), (0, .var a.cellsA)], 3, []⟩) (run_wpc _ _ _ _ _ ?_) ?_
  · rw [hz]
    simp only [hm, go_sem, ↓reduceIte]
    repeat' first | refine And.intro ?_ ?_ | intro _
    all_goals first
      | (refine ⟨_, rfl, ?_⟩; simp only [*, beq_self_eq_true, Bool.true_and, Bool.false_and]; (refine le_ev [] ?_; simp only [hm, go_sem, ↓reduceIte]; first | done | rfl | exact ⟨rfl, rfl⟩))
      | (refine ⟨_, rfl, ?_⟩; rw [beq_dec p.fr, decide_eq_false (by assumption), Bool.false_and]; (refine le_ev [] ?_; simp only [hm, go_sem, ↓reduceIte]; first | done | rfl | exact ⟨rfl, rfl⟩))
  rintro t rfl
  have hbad : (assocB a = false ∨ packB p = false ∨ (byBOf a p = false ∧ ¬ (p.fr = a.fr ∧ p.to = a.to))) → assocStep a p = (noAssoc, []) := fun h => by
    unfold assocStep
    rw [if_pos]
    rcases h with h | h | ⟨h1, h2⟩
    · rw [h]; rfl
    · rw [h]; simp
    · rw [h1]
      have : decide (p.fr ≠ a.fr ∨ p.to ≠ a.to) = true := by
        simp only [decide_eq_true_eq]
        by_cases e : p.fr = a.fr
        · exact .inr fun e2 => h2 ⟨e, e2⟩
        · exact .inl e
      rw [this]; simp
  have hgood : assocB a = true → packB p = true → (byBOf a p = true ∨ (p.fr = a.fr ∧ p.to = a.to)) → assocStep a p = (if (rulesOf (brokenB a (byBOf a p) p (stepChunks (byBOf a p) p.chunks a []).2)).isEmpty then (stepChunks (byBOf a p) p.chunks a []).1 else a, rulesOf (brokenB a (byBOf a p) p (stepChunks (byBOf a p) p.chunks a []).2)) := fun h1 h2 h3 => by
    unfold assocStep
    rw [if_neg]
    rw [h1, h2]
    rcases h3 with h | ⟨e1, e2⟩
    · rw [h]; simp
    · simp [e1, e2]
  generalize hbb : byBOf a p = byB at *
  clear hz
  unfold Assoc.cellsA
  refine run_seq (run_wpc _ _ _ _ _ ?_)
  simp only [hm, go_sem, ↓reduceIte]
  refine call_pure (hP ▸ hav) rfl rfl ?_
  cases h1 : assocB a
  · simp only [hm, go_sem, ↓reduceIte]
    rw [hbad (.inl h1)]
    exact ⟨_, rfl, .inr ⟨rfl, rfl⟩⟩
  simp only [hm, go_sem, ↓reduceIte]
  refine call_pure (hP ▸ hpv) rfl rfl ?_
  cases h2 : packB p
  · simp only [hm, go_sem, ↓reduceIte]
    rw [hbad (.inr (.inl h2))]
    exact ⟨_, rfl, .inr ⟨rfl, rfl⟩⟩
  have hAW := assocB_AW h1
  have hstep := s_l31Step a byB p hAW h2
  have hcA := s_l31Copy a (by have := hAW.1.2.1; omega) (by have := hAW.2.2.1; omega)
  have hCW := stepChunks_ok byB p.chunks a [] hAW
  unfold Packet.ro at hstep
  rw [hu] at hstep hcA
  unfold Assoc.cellsA at hstep hcA
  generalize (stepChunks byB p.chunks a []).1 = o at *
  generalize brokenB a byB p (stepChunks byB p.chunks a []).2 = B at *
  have hco := s_l31Copy o (by have := hCW.1.2.1; omega) (by have := hCW.2.2.1; omega)
  have huo : o.ro = .agg o.cellsA := rfl
  rw [huo] at hstep hco
  unfold Assoc.cellsA at hstep hco
  have key : byB = true ∨ (byB = false ∧ p.fr = a.fr ∧ p.to = a.to) ∨ (byB = false ∧ ¬ (p.fr = a.fr ∧ p.to = a.to)) := by
    cases byB
    · by_cases h : p.fr = a.fr ∧ p.to = a.to
      · exact .inr (.inl ⟨rfl, h⟩)
      · exact .inr (.inr ⟨rfl, h⟩)
    · exact .inl rfl
  rcases key with hk | hk | hk
  case inr.inr =>
    obtain ⟨rfl, hk2⟩ := hk
    rw [hbad (.inr (.inr ⟨rfl, hk2⟩))]
    have hne : p.fr ≠ a.fr ∨ p.to ≠ a.to := by
      by_cases e : p.fr = a.fr
      · exact .inr fun e2 => hk2 ⟨e, e2⟩
      · exact .inl e
    simp only [hm, go_sem, ↓reduceIte]
    repeat' first | refine And.intro ?_ ?_ | intro _
    all_goals first
      | exact ⟨_, rfl, .inr ⟨rfl, rfl⟩⟩
      | (exfalso; simp_all; done)
  case inl =>
    have hx := hgood h1 h2 (.inl hk)
    subst hk
    simp only [hm, go_sem, ↓reduceIte]
    refine run_seq (run_wpc _ _ _ _ _ ?_)
    simp only [hm, go_sem, ↓reduceIte]
    refine call_dataP (hP ▸ hstep) rfl rfl ?_
    simp only [hm, go_sem, ↓reduceIte]
    refine run_seq (run_wpc _ _ _ _ _ ?_)
    simp only [hm, go_sem, ↓reduceIte]
    refine run_seq (run_wpc _ _ _ _ _ ?_)
    simp only [hm, go_sem, ↓reduceIte]
    rw [hx]
    refine run_exit 0 (fun t0 => t0 = ⟨[(2, .ptr 0 0 0), (4, .ptr 2 0 0), (7, .ptr 3 0 0), (9, .sl 4 0 (rulesTo B 12).length)], [(0, .var a.cellsA), (2, .var [.i 0, .i 0, .i 0, .bo false, .i 0, .i 0, .i 0, .r .nil, .i 0, .i 0, .i 0, .i 0, .r .nil, .i 0]), (3, .var o.cellsA), (4, .row 1 ((rulesTo B 12).map intRow))], 5, []⟩) ?_ ?_
    · refine lp_wpc (α := Nat) (fun i => ⟨[(2, .ptr 0 0 0), (4, .ptr 2 0 0), (7, .ptr 3 0 0), (8, .r (.ro none (bRows B))), (9, .sl 4 0 (rulesTo B i).length), (10, .i i)], [(0, .var a.cellsA), (2, .var [.i 0, .i 0, .i 0, .bo false, .i 0, .i 0, .i 0, .r .nil, .i 0, .i 0, .i 0, .i 0, .r .nil, .i 0]), (3, .var o.cellsA), (4, .row 1 ((rulesTo B i).map intRow))], 5, []⟩)
        (fun i => 1 ≤ i ∧ i ≤ 12) (fun i => 12 - i) 1 (by omega) (by simp only [rulesTo_1, List.map_nil, List.length_nil, Assoc.cellsA]; (refine le_ev [] ?_; simp only [hm, go_sem, ↓reduceIte]; first | done | rfl | exact ⟨rfl, rfl⟩)) ?_
      rintro i ⟨hi1, hi⟩
      unfold pc22l0
      have hbl := bRows_len B
      rcases Nat.lt_or_ge i 12 with hil | hil
      · have hw1 : IntKind.i64.wrap ((i : Int) + 1) = ((i + 1 : Nat) : Int) := by rw [wrap64 (by omega) (by omega)]; omega
        have hg := bRows_get B hil
        have hs := rulesTo_succ B hi1
        have hle := rulesTo_le B i
        generalize rulesTo B i = rs at hs hle
        have hrt : List.take rs.length (rs.map intRow) = rs.map intRow := List.take_of_length_le (by simp)
        cases hBi : B i <;> rw [hBi] at hg hs <;> simp only [hw1, hg, hrt, hbl, Int.toNat_natCast, hm, go_sem, ↓reduceIte]
        all_goals
          repeat' first | refine And.intro ?_ ?_ | intro _
        all_goals first
          | omega
          | (refine ⟨i + 1, ⟨by omega, by omega⟩, by omega, ?_⟩; rw [hs]; simp only [Bool.false_eq_true, if_false, if_true, List.append_nil, List.map_append, List.length_append, List.length_cons, List.length_nil, List.map_cons, List.map_nil, intRow]; (refine le_ev [] ?_; simp only [hm, go_sem, ↓reduceIte]; first | done | rfl | exact ⟨rfl, rfl⟩))
      · have : i = 12 := by omega
        subst this
        simp only [hbl, hm, go_sem, ↓reduceIte]
        repeat' first | refine And.intro ?_ ?_ | intro _
        all_goals first
          | omega
          | (refine ⟨_, rfl, ?_⟩; (refine le_ev [] ?_; simp only [hm, go_sem, ↓reduceIte]; first | done | rfl | exact ⟨rfl, rfl⟩))
    rintro t0 rfl
    rw [if_pos rfl, rulesTo_12]
    generalize rulesOf B = rs at hx ⊢
    unfold Assoc.cellsA
    refine run_wpc _ _ _ _ _ ?_
    simp only [hm, go_sem, ↓reduceIte]
    cases rs with
    | nil =>
      simp only [List.length_nil, List.isEmpty_nil, if_true, hm, go_sem, ↓reduceIte]
      refine call_data (hP ▸ hco) rfl rfl ?_
      simp only [hm, go_sem, ↓reduceIte]
      exact ⟨4, rfl, .inl rfl⟩
    | cons r rs =>
      simp only [List.length_cons, List.isEmpty_cons, Bool.false_eq_true, if_false, hm, go_sem, ↓reduceIte]
      repeat' first | refine And.intro ?_ ?_ | intro _ | (refine call_data (hP ▸ hcA) rfl rfl ?_; simp only [hm, go_sem, ↓reduceIte])
      all_goals first
        | omega
        | exact ⟨4, rfl, .inl rfl⟩
        | (exfalso; omega)
  case inr.inl =>
    obtain ⟨rfl, hk1, hk2⟩ := hk
    have hx := hgood h1 h2 (.inr ⟨hk1, hk2⟩)
    rw [hk1, hk2] at hstep
    simp only [hk1, hk2, hm, go_sem, ↓reduceIte]
    refine run_seq (run_wpc _ _ _ _ _ ?_)
    simp only [hm, go_sem, ↓reduceIte]
    refine call_dataP (hP ▸ hstep) rfl rfl ?_
    simp only [hm, go_sem, ↓reduceIte]
    refine run_seq (run_wpc _ _ _ _ _ ?_)
    simp only [hm, go_sem, ↓reduceIte]
    refine run_seq (run_wpc _ _ _ _ _ ?_)
    simp only [hm, go_sem, ↓reduceIte]
    rw [hx]
    refine run_exit 0 (fun t0 => t0 = ⟨[(2, .ptr 0 0 0), (4, .ptr 2 0 0), (7, .ptr 3 0 0), (9, .sl 4 0 (rulesTo B 12).length)], [(0, .var a.cellsA), (2, .var [.i 0, .i 0, .i 0, .bo false, .i 0, .i 0, .i 0, .r .nil, .i 0, .i 0, .i 0, .i 0, .r .nil, .i 0]), (3, .var o.cellsA), (4, .row 1 ((rulesTo B 12).map intRow))], 5, []⟩) ?_ ?_
    · refine lp_wpc (α := Nat) (fun i => ⟨[(2, .ptr 0 0 0), (4, .ptr 2 0 0), (7, .ptr 3 0 0), (8, .r (.ro none (bRows B))), (9, .sl 4 0 (rulesTo B i).length), (10, .i i)], [(0, .var a.cellsA), (2, .var [.i 0, .i 0, .i 0, .bo false, .i 0, .i 0, .i 0, .r .nil, .i 0, .i 0, .i 0, .i 0, .r .nil, .i 0]), (3, .var o.cellsA), (4, .row 1 ((rulesTo B i).map intRow))], 5, []⟩)
        (fun i => 1 ≤ i ∧ i ≤ 12) (fun i => 12 - i) 1 (by omega) (by simp only [rulesTo_1, List.map_nil, List.length_nil, Assoc.cellsA]; (refine le_ev [] ?_; simp only [hm, go_sem, ↓reduceIte]; first | done | rfl | exact ⟨rfl, rfl⟩)) ?_
      rintro i ⟨hi1, hi⟩
      unfold pc22l0
      have hbl := bRows_len B
      rcases Nat.lt_or_ge i 12 with hil | hil
      · have hw1 : IntKind.i64.wrap ((i : Int) + 1) = ((i + 1 : Nat) : Int) := by rw [wrap64 (by omega) (by omega)]; omega
        have hg := bRows_get B hil
        have hs := rulesTo_succ B hi1
        have hle := rulesTo_le B i
        generalize rulesTo B i = rs at hs hle
        have hrt : List.take rs.length (rs.map intRow) = rs.map intRow := List.take_of_length_le (by simp)
        cases hBi : B i <;> rw [hBi] at hg hs <;> simp only [hw1, hg, hrt, hbl, Int.toNat_natCast, hm, go_sem, ↓reduceIte]
        all_goals
          repeat' first | refine And.intro ?_ ?_ | intro _
        all_goals first
          | omega
          | (refine ⟨i + 1, ⟨by omega, by omega⟩, by omega, ?_⟩; rw [hs]; simp only [Bool.false_eq_true, if_false, if_true, List.append_nil, List.map_append, List.length_append, List.length_cons, List.length_nil, List.map_cons, List.map_nil, intRow]; (refine le_ev [] ?_; simp only [hm, go_sem, ↓reduceIte]; first | done | rfl | exact ⟨rfl, rfl⟩))
      · have : i = 12 := by omega
        subst this
        simp only [hbl, hm, go_sem, ↓reduceIte]
        repeat' first | refine And.intro ?_ ?_ | intro _
        all_goals first
          | omega
          | (refine ⟨_, rfl, ?_⟩; (refine le_ev [] ?_; simp only [hm, go_sem, ↓reduceIte]; first | done | rfl | exact ⟨rfl, rfl⟩))
    rintro t0 rfl
    rw [if_pos rfl, rulesTo_12]
    generalize rulesOf B = rs at hx ⊢
    unfold Assoc.cellsA
    refine run_wpc _ _ _ _ _ ?_
    simp only [hm, go_sem, ↓reduceIte]
    cases rs with
    | nil =>
      simp only [List.length_nil, List.isEmpty_nil, if_true, hm, go_sem, ↓reduceIte]
      refine call_data (hP ▸ hco) rfl rfl ?_
      simp only [hm, go_sem, ↓reduceIte]
      exact ⟨4, rfl, .inl rfl⟩
    | cons r rs =>
      simp only [List.length_cons, List.isEmpty_cons, Bool.false_eq_true, if_false, hm, go_sem, ↓reduceIte]
      repeat' first | refine And.intro ?_ ?_ | intro _ | (refine call_data (hP ▸ hcA) rfl rfl ?_; simp only [hm, go_sem, ↓reduceIte])
      all_goals first
        | omega
        | exact ⟨4, rfl, .inl rfl⟩
        | (exfalso; omega)
theorem s_specAssocStep (a : Assoc) (p : Packet) (ha : SFit a.a) (hb : SFit a.b) (hl : p.chunks.length ≤ 2000000) : Spec Try.prog 22 0 [] [a.ro, p.ro] (Plain fun r => r = .tup [(assocStep a p).1.ro, .r (.ro none ((assocStep a p).2.map intRow))]) := by
  refine Spec.le (s_specAssocStep0 a p ha hb hl) fun r hp nx gs h => ⟨_, [], 0, [], ⟨rfl, rfl, rfl, rfl⟩, fun c hc => ?_⟩
  obtain ⟨b, hb, h⟩ := h
  generalize assocStep a p = x at hb h
  obtain ⟨x, rs⟩ := x
  simp only at hb h
  rcases h with rfl | ⟨rfl, rfl⟩
  · have hu : x.ro = .agg x.cellsA := rfl
    rw [hu]
    unfold Assoc.cellsA
    refine Le.trans (t := ⟨[(0, .tup [.agg x.cellsA, .sl 0 0 rs.length])], [(0, .row 1 (rs.map intRow))], 1, []⟩) (le_ev [(0, b)] (by simp only [hc, go_sem, ↓reduceIte, hb])) ?_
    refine Le.trans (le_frz 0 rfl (by simp only [List.length_map, go_sem, ↓reduceIte]) (by simp only [go_sem, ↓reduceIte])) ?_
    simp only [take_map_len, List.drop_zero, go_sem, ↓reduceIte]
    exact le_ev [] (by simp only [hc, go_sem, ↓reduceIte])
  · unfold zeroA
    refine Le.trans (t := ⟨[(0, .tup [noAssoc.av (.r .nil) (.r .nil), .sl 0 0 rs.length])], [(0, .row 1 (rs.map intRow))], 1, []⟩) (le_ev [(0, b)] (by simp only [Assoc.av, hc, go_sem, ↓reduceIte, hb])) ?_
    unfold Assoc.av
    refine Le.trans (le_frz 0 rfl (by simp only [List.length_map, go_sem, ↓reduceIte]) (by simp only [go_sem, ↓reduceIte])) ?_
    simp only [take_map_len, List.drop_zero, go_sem, ↓reduceIte]
    refine Le.trans le_denil ?_
    exact le_ev [] (by simp only [hc, Assoc.ro, Assoc.av, noAssoc, noSide, List.map_nil, go_sem, ↓reduceIte])
end Go.Cap

/- Contracts: the reference's monitor: its copy, its notes. -/
namespace Go.Cap
open Go Go.Proofs
set_option maxRecDepth 100000
set_option linter.unusedSimpArgs false
set_option linter.unusedVariables false
/-- Nil slices go into a call as empty data. -/
theorem call_denil {c : Cx} {f : Nat} {args : List AV} {s : St} {K : AV → St → Prop} (h : Call c f (args.map denil) s K) : Call c f args s K := by
  intro M ι w W vs hvs
  refine h M ι w W vs ⟨by rw [List.length_map]; exact hvs.1, fun j y v hy hv => ?_⟩
  rw [List.getElem?_map] at hy
  cases hj : args[j]? with
  | none => rw [hj] at hy; cases hy
  | some c0 =>
    rw [hj] at hy
    cases hy
    exact (hvs.2 j c0 v hj hv).denil
attribute [local irreducible] Call Run Spec Le
/-- A monitor with its own blocks. -/
def Mon.own (m : Mon) : AV := .agg [.i m.records, .sl 0 0 m.list.length, .sl 1 0 m.found.length]
end Go.Cap

/- Contracts: the program reads receipts, and tells how far serial numbers are apart. -/
namespace Go.Cap
open Go Go.Proofs
set_option maxRecDepth 100000
set_option linter.unusedSimpArgs false
set_option linter.unusedVariables false
attribute [local irreducible] Call Run Spec Le

theorem sackGet_none {k : Chunk} (h : k.kind = 3 → k.flags = 0 → k.body.length % 4 = 2 → sackB (sackOf k) = true → False) : sackGet k = none := by
  unfold sackGet
  rw [if_neg]
  simp only [Bool.and_eq_true, decide_eq_true_eq]
  rintro ⟨⟨⟨h1, h2⟩, h3⟩, h4⟩
  exact h h1 h2 h3 h4
theorem sackGet_some {k : Chunk} (h1 : k.kind = 3) (h2 : k.flags = 0) (h3 : k.body.length % 4 = 2) (h4 : sackB (sackOf k) = true) : sackGet k = some (sackOf k) := by
  unfold sackGet
  rw [if_pos]
  simp only [Bool.and_eq_true, decide_eq_true_eq]
  exact ⟨⟨⟨h1, h2⟩, h3⟩, h4⟩
def sackSt (k : Chunk) (gs : List Gap) : Nat → St
  | 0 => ⟨[(1, .ptr 0 0 0), (2, .ptr 1 0 0), (4, .ptr 2 0 0), (5, .i 2)], [(0, .var [.i k.kind, .i k.flags, .st k.body]), (1, .var [.i 0, .r .nil]), (2, .var [.i (at2 k.body 0), .r .nil])], 3, []⟩
  | i + 1 => ⟨[(1, .ptr 0 0 0), (2, .ptr 1 0 0), (4, .ptr 2 0 0), (5, .i (2 + 4 * ((i + 1 : Nat) : Int)))], [(0, .var [.i k.kind, .i k.flags, .st k.body]), (1, .var [.i 0, .r .nil]), (2, .var [.i (at2 k.body 0), .sl 3 0 (i + 1)]), (3, .row 2 ((gs.take (i + 1)).map Gap.row))], 4, []⟩
def sackFin (k : Chunk) (gs : List Gap) : Nat → St
  | 0 => ⟨[(2, .ptr 1 0 0), (4, .ptr 2 0 0)], [(1, .var [.i 0, .r .nil]), (2, .var [.i (at2 k.body 0), .r .nil])], 3, []⟩
  | i + 1 => ⟨[(2, .ptr 1 0 0), (4, .ptr 2 0 0)], [(1, .var [.i 0, .r .nil]), (2, .var [.i (at2 k.body 0), .sl 3 0 (i + 1)]), (3, .row 2 ((gs.take (i + 1)).map Gap.row))], 4, []⟩
theorem sackSt_zero (k : Chunk) (gs : List Gap) : sackSt k gs 0 = ⟨[(1, .ptr 0 0 0), (2, .ptr 1 0 0), (4, .ptr 2 0 0), (5, .i 2)], [(0, .var [.i k.kind, .i k.flags, .st k.body]), (1, .var [.i 0, .r .nil]), (2, .var [.i (at2 k.body 0), .r .nil])], 3, []⟩ := rfl
theorem sackSt_succ (k : Chunk) (gs : List Gap) (i : Nat) : sackSt k gs (i + 1) = ⟨[(1, .ptr 0 0 0), (2, .ptr 1 0 0), (4, .ptr 2 0 0), (5, .i (2 + 4 * ((i + 1 : Nat) : Int)))], [(0, .var [.i k.kind, .i k.flags, .st k.body]), (1, .var [.i 0, .r .nil]), (2, .var [.i (at2 k.body 0), .sl 3 0 (i + 1)]), (3, .row 2 ((gs.take (i + 1)).map Gap.row))], 4, []⟩ := rfl
theorem sackFin_zero (k : Chunk) (gs : List Gap) : sackFin k gs 0 = ⟨[(2, .ptr 1 0 0), (4, .ptr 2 0 0)], [(1, .var [.i 0, .r .nil]), (2, .var [.i (at2 k.body 0), .r .nil])], 3, []⟩ := rfl
theorem sackFin_succ (k : Chunk) (gs : List Gap) (i : Nat) : sackFin k gs (i + 1) = ⟨[(2, .ptr 1 0 0), (4, .ptr 2 0 0)], [(1, .var [.i 0, .r .nil]), (2, .var [.i (at2 k.body 0), .sl 3 0 (i + 1)]), (3, .row 2 ((gs.take (i + 1)).map Gap.row))], 4, []⟩ := rfl
theorem s_implSackGet0 (k : Chunk) (hs : k.body.length ≤ 1000000) : Spec Try.prog 173 0 [] [k.av] (fun r hp _ _ => (sackGet k = none ∧ r = .tup [.agg [.i 0, .r .nil], .bo false]) ∨ ∃ x, sackGet k = some x ∧ ((x.gaps = [] ∧ r = .tup [.agg [.i x.cum, .r .nil], .bo true]) ∨ ∃ b, r = .tup [.agg [.i x.cum, .sl b 0 x.gaps.length], .bo true] ∧ hget hp b = some (.row 2 (x.gaps.map Gap.row)))) := by
  refine mr173 rfl fun c hP hm => ?_
  unfold pc173 Chunk.av
  refine run_seq (run_wpc _ _ _ _ _ ?_)
  simp only [hm, go_sem, ↓reduceIte]
  refine run_seq (run_wpc _ _ _ _ _ ?_)
  simp only [hm, go_sem, ↓reduceIte]
  rw [tmod_nn (by omega)]
  repeat' first | refine And.intro ?_ ?_ | intro _
  all_goals first
    | (left; refine sackGet_none fun h1 h2 h3 h4 => ?_; omega)
    | (left; refine ⟨sackGet_none fun h1 h2 h3 h4 => ?_, rfl⟩; omega)
    | skip
  refine run_seq (run_wpc _ _ _ _ _ ?_)
  simp only [hm, go_sem, ↓reduceIte]
  refine run_seq (run_wpc _ _ _ _ _ ?_)
  simp only [hm, go_sem, ↓reduceIte]
  refine call_pure (hP ▸ s_WordGet _ _ (by omega) (by omega)) rfl rfl ?_
  simp only [hm, go_sem, ↓reduceIte]
  have hgs : (sackOf k).gaps = (List.range ((k.body.length - 2) / 4)).map (gapAt k.body) := gapsOf_body k.body
  have hlen : (sackOf k).gaps.length = (k.body.length - 2) / 4 := by rw [hgs]; simp
  have hcum : (sackOf k).cum = at2 k.body 0 := rfl
  have hnn : (k.body.length - 2) / 4 * 4 + 2 = k.body.length := by omega
  generalize hn : (k.body.length - 2) / 4 = n at hlen hgs hnn
  refine run_seq (run_wpc _ _ _ _ _ ?_)
  simp only [hm, go_sem, ↓reduceIte]
  refine run_exit 0 (fun t0 => t0 = sackFin k (sackOf k).gaps n) ?_ ?_
  · refine lp_wpc (α := Nat) (fun i => sackSt k (sackOf k).gaps i) (fun i => i ≤ n) (fun i => n - i) 0 (Nat.zero_le _) (by rw [sackSt_zero]; (refine le_ev [] ?_; simp only [hm, go_sem, ↓reduceIte]; first | done | rfl | exact ⟨rfl, rfl⟩)) ?_
    intro i hi
    unfold pc173l0
    rcases Nat.lt_or_ge i n with hil | hil
    · have htk := range_map_take (gapAt k.body) hil
      rw [← hgs] at htk
      have hl : ((sackOf k).gaps.take i).length = i := by rw [List.length_take]; omega
      cases i with
      | zero =>
        rw [sackSt_zero]
        simp only [List.take_zero, List.nil_append] at htk
        have w2 : IntKind.i64.wrap (2 + 2) = 4 := wrap64 (by omega) (by omega)
        have w4 : IntKind.i64.wrap (2 + 4) = 6 := wrap64 (by omega) (by omega)
        simp only [w2, w4, hm, go_sem, ↓reduceIte]
        repeat' first
          | refine And.intro ?_ ?_
          | intro _
          | (refine call_pure (hP ▸ s_WordGet _ _ (by omega) (by omega)) rfl rfl ?_; simp only [w2, w4, hm, go_sem, ↓reduceIte])
        all_goals first
          | omega
          | (refine ⟨0 + 1, hil, by omega, ?_⟩
             rw [sackSt_succ, htk]
             simp only [List.map_cons, List.map_nil, Gap.row, gapAt]
             (refine le_ev [(3, 5)] ?_; simp only [hm, go_sem, ↓reduceIte]; first | done | rfl | exact ⟨rfl, rfl⟩))
      | succ i =>
        rw [sackSt_succ]
        generalize (sackOf k).gaps.take (i + 1) = gs at htk hl
        have hrt : List.take (i + 1) (gs.map Gap.row) = gs.map Gap.row := List.take_of_length_le (by simp; omega)
        have hw4 : IntKind.i64.wrap (2 + 4 * ((i + 1 : Nat) : Int) + 4) = 2 + 4 * ((i + 1 + 1 : Nat) : Int) := by rw [wrap64 (by omega) (by omega)]; omega
        have hw2 : IntKind.i64.wrap (2 + 4 * ((i + 1 : Nat) : Int) + 2) = 2 + 4 * ((i + 1 : Nat) : Int) + 2 := wrap64 (by omega) (by omega)
        have e1 : (2 + 4 * ((i + 1 : Nat) : Int)).toNat = 2 + 4 * (i + 1) := by omega
        have e2 : (2 + 4 * ((i + 1 : Nat) : Int) + 2).toNat = 2 + 4 * (i + 1) + 2 := by omega
        simp only [hw4, hw2, hrt, hm, go_sem, ↓reduceIte]
        repeat' first
          | refine And.intro ?_ ?_
          | intro _
          | (refine call_pure (hP ▸ s_WordGet _ _ (by omega) (by omega)) rfl rfl ?_; simp only [hw4, hw2, hrt, e1, e2, hm, go_sem, ↓reduceIte])
        all_goals first
          | omega
          | (simp only [List.length_map]; omega)
          | (refine ⟨i + 1 + 1, hil, by omega, ?_⟩
             rw [sackSt_succ, htk]
             simp only [List.map_append, List.map_cons, List.map_nil, Gap.row, gapAt]
             (refine le_ev [] ?_; simp only [hm, go_sem, ↓reduceIte]; first | done | rfl | exact ⟨rfl, rfl⟩))
    · have : i = n := by omega
      subst this
      cases i with
      | zero =>
        rw [sackSt_zero]
        simp only [hm, go_sem, ↓reduceIte]
        repeat' first | refine And.intro ?_ ?_ | intro _
        all_goals first
          | omega
          | (refine ⟨_, rfl, ?_⟩; rw [sackFin_zero]; (refine le_ev [] ?_; simp only [hm, go_sem, ↓reduceIte]; first | done | rfl | exact ⟨rfl, rfl⟩))
      | succ i =>
        rw [sackSt_succ]
        simp only [hm, go_sem, ↓reduceIte]
        repeat' first | refine And.intro ?_ ?_ | intro _
        all_goals first
          | omega
          | (refine ⟨_, rfl, ?_⟩; rw [sackFin_succ]; (refine le_ev [] ?_; simp only [hm, go_sem, ↓reduceIte]; first | done | rfl | exact ⟨rfl, rfl⟩))
  rintro t0 rfl
  have hcs := s_sackOk (sackOf k) (by omega)
  unfold Sack.ro at hcs
  generalize hso : sackOf k = so at *
  have hfail : sackB so = false → sackGet k = none := fun hb => sackGet_none fun h1 h2 h3 h4 => by rw [hso, hb] at h4; cases h4
  have hgood : sackB so = true → sackGet k = some so := fun hb => by rw [sackGet_some (by omega) (by omega) (by omega) (by rw [hso]; exact hb), hso]
  cases n with
  | zero =>
    rw [sackFin_zero, ← hcum]
    have hnil : so.gaps = [] := List.length_eq_zero_iff.1 hlen
    rw [hnil, List.map_nil] at hcs
    refine run_wpc _ _ _ _ _ ?_
    simp only [hm, go_sem, ↓reduceIte]
    refine call_denil ?_
    simp only [hm, go_sem, ↓reduceIte]
    refine call_pure (hP ▸ hcs) rfl rfl ?_
    simp only [hm, go_sem, ↓reduceIte]
    repeat' first | refine And.intro ?_ ?_ | intro _
    all_goals first
      | omega
      | (rename_i hb; left; exact hfail hb)
      | (rename_i hb; right; exact ⟨so, hgood hb, .inl ⟨hnil, rfl⟩⟩)
  | succ n =>
    rw [sackFin_succ, ← hlen, List.take_length, ← hcum]
    refine run_wpc _ _ _ _ _ ?_
    simp only [hm, go_sem, ↓reduceIte]
    refine call_flat (hP ▸ hcs) rfl (.cons (vw_agg (.cons (vw_self _ _ rfl) (.cons (Vw.full rfl (by simp)) .nil))) .nil) ?_
    simp only [hm, go_sem, ↓reduceIte]
    repeat' first | refine And.intro ?_ ?_ | intro _
    all_goals first
      | omega
      | (rename_i hb; left; exact hfail hb)
      | (rename_i hb; right; exact ⟨so, hgood hb, .inr ⟨3, rfl, rfl⟩⟩)
theorem s_implSackGet (k : Chunk) (hs : k.body.length ≤ 1000000) : Spec Try.prog 173 0 [] [k.av] (Plain fun r => r = .tup [((sackGet k).getD noSack).ro, .bo (sackGet k).isSome]) := by
  refine Spec.le (s_implSackGet0 k hs) fun r hp nx gs h => ⟨_, [], 0, [], ⟨rfl, rfl, rfl, rfl⟩, fun c hc => ?_⟩
  rcases h with ⟨h, rfl⟩ | ⟨x, h, ⟨hn, rfl⟩ | ⟨b, rfl, hb⟩⟩
  · rw [h]
    refine Le.trans (t := ⟨[(0, .tup [.agg [.i 0, .r .nil], .bo false])], [], 0, []⟩) (le_ev [] (by simp only [hc, go_sem, ↓reduceIte])) le_denil
  · rw [h]
    refine Le.trans (t := ⟨[(0, .tup [.agg [.i x.cum, .r .nil], .bo true])], [], 0, []⟩) (le_ev [] (by simp only [hc, go_sem, ↓reduceIte])) ?_
    have e : (Sack.ro x) = .agg [.i x.cum, .r (.ro none [])] := by unfold Sack.ro; rw [hn]; rfl
    simp only [Option.getD_some, Option.isSome_some, e]
    exact le_denil
  · rw [h]
    refine Le.trans (t := ⟨[(0, .tup [.agg [.i x.cum, .sl 0 0 x.gaps.length], .bo true])], [(0, .row 2 (x.gaps.map Gap.row))], 1, []⟩) (le_ev [(0, b)] (by simp only [hc, go_sem, ↓reduceIte, hb])) ?_
    refine Le.trans (le_frz 0 rfl (by simp only [List.length_map, go_sem, ↓reduceIte]) (by simp only [go_sem, ↓reduceIte])) ?_
    simp only [take_map_len, List.drop_zero, go_sem, ↓reduceIte]
    exact le_ev [] (by simp only [hc, Option.getD_some, Option.isSome_some, Sack.ro, go_sem, ↓reduceIte])
theorem s_implSerialDiff (a b : Int) (ha : 0 ≤ a ∧ a < 65536) (hb : 0 ≤ b ∧ b < 65536) : Spec Try.prog 174 0 [] [.i a, .i b] (fun r _ _ _ => r = .i (l3d a b)) := by
  refine mk174 rfl fun c hP hm => ?_
  unfold pc174
  have hsa : serialB a = true := by unfold serialB; exact decide_eq_true ha
  have hsb : serialB b = true := by unfold serialB; exact decide_eq_true hb
  have w1 : IntKind.i64.wrap (b - a) = b - a := wrap64 (by omega) (by omega)
  have w2 : IntKind.i64.wrap (b - a + 65536) = b - a + 65536 := wrap64 (by omega) (by omega)
  have e : (b - a + 65536).tmod 65536 = l3 b (-a) := by rw [tmod_nn (by omega)]; unfold l3; omega
  have hK := l3_range b (-a)
  unfold l3d
  simp only [hm, go_sem, ↓reduceIte]
  repeat' first
    | refine And.intro ?_ ?_
    | intro _
    | (refine c_serialOk hP ?_; simp only [hsa, hsb, w1, w2, e, hm, go_sem, ↓reduceIte])
  all_goals
    generalize l3 b (-a) = K at *
    first
    | omega
    | (rw [if_pos (by omega)]; rw [wrap64 (by omega) (by omega)])
    | (rw [if_neg (by omega)])
end Go.Cap

/- Contracts: what a side said and what is known of it, as data. -/
namespace Go.Cap
open Go Go.Proofs
set_option maxRecDepth 100000
set_option linter.unusedSimpArgs false
set_option linter.unusedVariables false
attribute [local irreducible] Call Run Spec Le

theorem side_acked {s : Side} (h : sideB s = true) : 0 ≤ s.acked ∧ s.acked ≤ s.sent.length := by
  unfold sideB at h
  split at h
  · simp only [noneB, Bool.and_eq_true, decide_eq_true_eq, beq_iff_eq] at h
    omega
  · simp only [headB, Bool.and_eq_true, decide_eq_true_eq] at h
    exact h.1.2
end Go.Cap

/- Plain facts of what a side said and what is known of it. -/
namespace Go.Cap
open Go Go.Proofs
set_option maxRecDepth 100000
set_option linter.unusedSimpArgs false
set_option linter.unusedVariables false

theorem side_none {s : Side} (h : sideB s = true) (ht : s.tag = 0) : s.sent = [] ∧ s.acked = 0 ∧ s.streams = 0 ∧ s.first = 0 := by
  unfold sideB at h
  rw [if_pos ht] at h
  simp only [noneB, Bool.and_eq_true, beq_iff_eq, decide_eq_true_eq] at h
  exact ⟨List.eq_nil_of_length_eq_zero h.1.2, h.2, h.1.1.1, h.1.1.2⟩
theorem side_acks {s : Side} (h : sideB s = true) {a : Int} (ha : s.acked ≤ a ∧ a ≤ s.sent.length) : sideB { s with acked := a } = true := by
  have h0 := side_acked h
  by_cases ht : s.tag = 0
  · obtain ⟨e1, e2, e3, e4⟩ := side_none h ht
    rw [e1] at ha
    have : a = 0 := by simp at ha; omega
    subst this
    obtain ⟨x1, x2, x3, x4, x5⟩ := s
    simp only at *
    subst e2
    exact h
  · unfold sideB at h ⊢
    rw [if_neg ht] at h
    rw [if_neg ht]
    simp only [headB, Bool.and_eq_true, decide_eq_true_eq] at h ⊢
    refine ⟨⟨h.1.1, by omega⟩, ?_⟩
    have := h.2
    refine sideLoop_of _ 0 fun j hj => sideLoop_may s.sent 0 this j hj
end Go.Cap

/- Plain facts: a step leaves an association valid. -/
namespace Go.Cap
open Go Go.Proofs
set_option linter.unusedSimpArgs false
set_option linter.unusedVariables false

theorem dataGet_ok' {c : Chunk} {x : Data} (h : dataGet c = some x) : dataB x = true := by
  unfold dataGet at h
  split at h
  · rename_i hc
    cases h
    simp only [Bool.and_eq_true] at hc
    exact hc.2
  · cases h
theorem new_side {x : Init} (h : initB x = true) : sideB ⟨x.tag, x.streams, x.tsn, [], 0⟩ = true ∧ 1 ≤ x.tag := by
  simp only [initB, Bool.and_eq_true, decide_eq_true_eq] at h
  obtain ⟨⟨⟨h1, h2, h3, h4⟩, h5⟩, h6⟩ := h
  refine ⟨?_, h1⟩
  unfold sideB
  rw [if_neg (by simp only; omega)]
  simp only [headB, sideLoop, h6, Bool.and_true, Bool.and_eq_true, decide_eq_true_eq, List.length_nil]
  omega
theorem stepInit_valid (a : Assoc) (byB : Bool) (c : Chunk) (h : assocB a = true) : assocB (stepInit a byB c).1 = true := by
  obtain ⟨b1, b2, b3, b4, b5, b6, b7, b8, b9, b10⟩ := assocB_iff.1 h
  unfold stepInit
  simp only
  split
  · exact h
  · rename_i hn
    split
    · exact h
    · rename_i x hx
      obtain ⟨n1, n2⟩ := new_side (initGet_ok hx)
      split
      · split <;> exact h
      · rename_i hg
        simp only [Bool.not_eq_true] at hg
        rw [hg] at hn
        simp only [Bool.not_false, Bool.and_true, Bool.not_eq_true', Bool.not_eq_false] at hn
        cases byB
        · simp only [Bool.not_false, Bool.and_true, Bool.and_false, Bool.false_and, Bool.or_false, Bool.and_eq_true, decide_eq_true_eq] at hn
          refine assocB_iff.2 ⟨b1, b2, b3, by simp only [Assoc.put, Bool.false_eq_true, if_false]; omega, n1, b6, by simp only [Assoc.put, Bool.false_eq_true, if_false]; omega, by simp only [Assoc.put, Bool.false_eq_true, if_false]; omega, by simp only [Assoc.put, Bool.false_eq_true, if_false, List.length_nil]; omega, by simp only [Assoc.put, Bool.false_eq_true, if_false]; exact b10.imp id fun e => by omega⟩
        · simp only [Bool.not_true, Bool.and_false, Bool.false_and, Bool.false_or, Bool.and_true, Bool.and_eq_true, decide_eq_true_eq] at hn
          refine assocB_iff.2 ⟨b1, b2, b3, by simp only [Assoc.put, if_true]; omega, b5, n1, by simp only [Assoc.put, if_true]; omega, by simp only [Assoc.put, if_true]; omega, by simp only [Assoc.put, if_true, List.length_nil]; omega, by simp only [Assoc.put, if_true]; exact b10.imp id fun e => by omega⟩
/-- A side with one more part. -/
theorem side_grow {s : Side} {d : Data} (h : sideB s = true) (hd : dataB d = true) (hs : ¬ s.streams ≤ d.stream) (hk1 : ¬ l3 d.tsn (-s.first) < s.sent.length) (hk2 : ¬ (s.sent.length : Int) < l3 d.tsn (-s.first)) (hm : mayB s.sent d = true) (hl : ¬ 12 ≤ s.sent.length) :
    sideB { s with sent := s.sent ++ [d] } = true ∧ s.tag ≠ 0 := by
  have hd' := hd
  simp only [dataB, serialB, Bool.and_eq_true, decide_eq_true_eq] at hd'
  have ht : s.tag ≠ 0 := fun e => by
    have := (side_none h e).2.2.1
    omega
  refine ⟨?_, ht⟩
  unfold sideB at h ⊢
  rw [if_neg ht] at h
  rw [if_neg ht]
  simp only [headB, Bool.and_eq_true, decide_eq_true_eq, List.length_append, List.length_cons, List.length_nil] at h ⊢
  obtain ⟨⟨⟨⟨⟨h1, h2⟩, h3⟩, h4⟩, h5⟩, h6⟩ := h
  have h3' := h3
  simp only [serialB, decide_eq_true_eq] at h3'
  refine ⟨⟨⟨⟨⟨h1, h2⟩, h3⟩, by omega⟩, by omega⟩, ?_⟩
  have key := sideLoop_may s.sent 0 h6
  refine sideLoop_of _ 0 fun j hj => ?_
  rw [List.length_append, List.length_cons, List.length_nil] at hj
  rcases Nat.lt_or_ge j s.sent.length with hjl | hjl
  · have := key j hjl
    simp only [partB, Nat.zero_add, List.getElem_append_left hjl, Bool.and_eq_true] at this ⊢
    rw [List.take_append_of_le_length (by omega)]
    exact this
  · have : j = s.sent.length := by omega
    subst this
    simp only [partB, Nat.zero_add, List.getElem_append_right (Nat.le_refl _), Nat.sub_self, List.getElem_cons_zero, Bool.and_eq_true, beq_iff_eq, decide_eq_true_eq, List.take_left']
    refine ⟨⟨⟨hd, ?_⟩, by omega⟩, hm⟩
    unfold l3 at hk1 hk2 ⊢
    omega
theorem stepData_valid (a : Assoc) (byB : Bool) (c : Chunk) (h : assocB a = true) : assocB (stepData a byB c).1 = true := by
  obtain ⟨b1, b2, b3, b4, b5, b6, b7, b8, b9, b10⟩ := assocB_iff.1 h
  unfold stepData
  simp only
  split
  · exact h
  split
  · exact h
  rename_i d hd
  have hdb := dataGet_ok' hd
  split
  · split <;> exact h
  rename_i k1
  split
  · exact h
  rename_i hnew
  split
  · exact h
  rename_i k2
  split
  · exact h
  rename_i k3
  split
  · exact h
  rename_i k4
  split
  · exact h
  rename_i k5
  simp only [Bool.not_eq_true, Bool.not_eq_true', Bool.not_eq_false] at k4 hnew
  have h3 : 3 ≤ a.state := by
    simp only [Bool.or_eq_true, Bool.and_eq_true, decide_eq_true_eq] at hnew
    omega
  cases byB
  · obtain ⟨g1, g2⟩ := side_grow (s := a.a) (d := d) b5 hdb k2 k1 k3 k4 k5
    exact assocB_iff.2 ⟨b1, b2, b3, b4, g1, b6, b7, b8, .inl h3, b10⟩
  · obtain ⟨g1, g2⟩ := side_grow (s := a.b) (d := d) b6 hdb k2 k1 k3 k4 k5
    exact assocB_iff.2 ⟨b1, b2, b3, b4, b5, g1, b7, b8, .inl h3, b10⟩
theorem stepSack_valid (a : Assoc) (byB : Bool) (c : Chunk) (h : assocB a = true) : assocB (stepSack a byB c).1 = true := by
  obtain ⟨b1, b2, b3, b4, b5, b6, b7, b8, b9, b10⟩ := assocB_iff.1 h
  unfold stepSack
  simp only
  split
  · exact h
  split
  · exact h
  split
  · exact h
  rename_i hk
  simp only [Bool.or_eq_true, Bool.not_eq_true', not_or, Bool.not_eq_false, decide_eq_true_eq] at hk
  obtain ⟨k1, k2⟩ := hk
  unfold inB at k1
  simp only [decide_eq_true_eq] at k1
  cases byB
  · have h1 := side_acked b6
    have g1 := side_acks b6 (a := max a.b.acked (l3d (l3 (a.other false).first (-1)) _)) ⟨Int.le_max_left .., Int.max_le.2 ⟨h1.2, k1.2⟩⟩
    exact assocB_iff.2 ⟨b1, b2, b3, b4, b5, g1, b7, b8, b9, b10⟩
  · have h1 := side_acked b5
    have g1 := side_acks b5 (a := max a.a.acked (l3d (l3 (a.other true).first (-1)) _)) ⟨Int.le_max_left .., Int.max_le.2 ⟨h1.2, k1.2⟩⟩
    exact assocB_iff.2 ⟨b1, b2, b3, b4, g1, b6, b7, b8, b9, b10⟩
theorem assoc_state {a : Assoc} (h : assocB a = true) {n : Int} (byB : Bool) (hn : n ≤ 7 ∧ 1 ≤ n) (h1 : 1 ≤ a.state ∧ a.state ≤ 6) (h2 : n = 7 ∨ (2 ≤ n ∧ 2 ≤ a.state)) (h3 : 3 ≤ n ∨ a.state < 3) (h4 : byB = false ∨ 5 ≤ n) : assocB { a with state := n, byB := byB } = true := by
  obtain ⟨b1, b2, b3, b4, b5, b6, b7, b8, b9, b10⟩ := assocB_iff.1 h
  exact assocB_iff.2 ⟨b1, b2, b3, by simp only; omega, b5, b6, by simp only; omega, by simp only; omega, by simp only; omega, by simp only; exact h4⟩
theorem stepEnd_valid (a : Assoc) (byB : Bool) (k : Int) (h : assocB a = true) : assocB (stepEnd a byB k).1 = true := by
  obtain ⟨b1, b2, b3, b4, b5, b6, b7, b8, b9, b10⟩ := assocB_iff.1 h
  unfold stepEnd inB
  try simp only
  repeat' split
  all_goals first
    | exact h
    | (simp only [Bool.and_eq_true, decide_eq_true_eq] at *; exact assoc_state h a.byB (by omega) (by omega) (by omega) (by omega) (b10.imp id fun e => by omega))
    | (simp only [Bool.and_eq_true, decide_eq_true_eq] at *; exact assoc_state h byB (by omega) (by omega) (by omega) (by omega) (.inr (by omega)))
theorem stepRest_valid (a : Assoc) (byB : Bool) (k : Int) (h : assocB a = true) : assocB (stepRest a byB k).1 = true := by
  obtain ⟨b1, b2, b3, b4, b5, b6, b7, b8, b9, b10⟩ := assocB_iff.1 h
  unfold stepRest inB
  try simp only
  repeat' split
  all_goals first
    | exact h
    | (simp only [Bool.and_eq_true, Bool.not_eq_true', decide_eq_true_eq] at *; exact assoc_state h a.byB (by omega) (by omega) (by omega) (by omega) (b10.imp id fun e => by omega))
theorem stepChunk_valid (a : Assoc) (byB : Bool) (c : Chunk) (h : assocB a = true) : assocB (stepChunk a byB c).1 = true := by
  unfold stepChunk
  split
  · exact stepInit_valid a byB c h
  split
  · exact stepData_valid a byB c h
  split
  · exact stepSack_valid a byB c h
  split
  · exact stepEnd_valid a byB _ h
  · exact stepRest_valid a byB _ h
theorem stepChunks_valid (byB : Bool) : ∀ (l : List Chunk) (a : Assoc) (rs : List Int), assocB a = true → assocB (stepChunks byB l a rs).1 = true
  | [], a, rs, h => h
  | c :: l, a, rs, h => by simp only [stepChunks]; exact stepChunks_valid byB l _ _ (stepChunk_valid a byB c h)
/-- The ports stay, and the state does not go back to new. -/
def Stays (a b : Assoc) : Prop := b.fr = a.fr ∧ b.to = a.to ∧ (1 ≤ a.state → 1 ≤ b.state)
theorem Stays.rfl {a : Assoc} : Stays a a := ⟨Eq.refl _, Eq.refl _, id⟩
theorem Stays.put {a : Assoc} {byB : Bool} {s : Side} {n : Int} (h : a.state ≤ n) : Stays a (({ a with state := n } : Assoc).put byB s) := by
  cases byB
  · exact ⟨Eq.refl _, Eq.refl _, fun h1 => Int.le_trans h1 h⟩
  · exact ⟨Eq.refl _, Eq.refl _, fun h1 => Int.le_trans h1 h⟩
theorem Stays.put0 {a : Assoc} {byB : Bool} {s : Side} : Stays a (a.put byB s) := by
  cases byB
  · exact ⟨Eq.refl _, Eq.refl _, id⟩
  · exact ⟨Eq.refl _, Eq.refl _, id⟩
theorem Stays.st {a : Assoc} {byB : Bool} {n : Int} (h : 1 ≤ n) : Stays a { a with state := n, byB := byB } := ⟨Eq.refl _, Eq.refl _, fun _ => h⟩
theorem stepInit_stays (a : Assoc) (byB : Bool) (c : Chunk) : Stays a (stepInit a byB c).1 := by
  unfold stepInit
  simp only
  split
  · exact .rfl
  split
  · exact .rfl
  split
  · split <;> exact .rfl
  · exact .put (by omega)
theorem stepData_stays (a : Assoc) (byB : Bool) (c : Chunk) : Stays a (stepData a byB c).1 := by
  unfold stepData
  simp only
  repeat' split
  all_goals first
    | exact .rfl
    | exact .put0
theorem stepSack_stays (a : Assoc) (byB : Bool) (c : Chunk) : Stays a (stepSack a byB c).1 := by
  unfold stepSack
  simp only
  repeat' split
  all_goals first
    | exact .rfl
    | exact .put0
theorem stepEnd_stays (a : Assoc) (byB : Bool) (k : Int) : Stays a (stepEnd a byB k).1 := by
  unfold stepEnd
  try simp only
  repeat' split
  all_goals first
    | exact .rfl
    | exact .st (by omega)
theorem stepRest_stays (a : Assoc) (byB : Bool) (k : Int) : Stays a (stepRest a byB k).1 := by
  unfold stepRest
  try simp only
  repeat' split
  all_goals first
    | exact .rfl
    | exact .st (by omega)
theorem stepChunk_stays (a : Assoc) (byB : Bool) (c : Chunk) : Stays a (stepChunk a byB c).1 := by
  unfold stepChunk
  split
  · exact stepInit_stays a byB c
  split
  · exact stepData_stays a byB c
  split
  · exact stepSack_stays a byB c
  split
  · exact stepEnd_stays a byB _
  · exact stepRest_stays a byB _
theorem stepChunks_stays (byB : Bool) : ∀ (l : List Chunk) (a : Assoc) (rs : List Int), Stays a (stepChunks byB l a rs).1
  | [], a, rs => .rfl
  | c :: l, a, rs => by
    simp only [stepChunks]
    have h1 := stepChunks_stays byB l (stepChunk a byB c).1 (rs ++ [(stepChunk a byB c).2])
    have h2 := stepChunk_stays a byB c
    exact ⟨h1.1.trans h2.1, h1.2.1.trans h2.2.1, fun h => h1.2.2 (h2.2.2 h)⟩
/-- A valid association stays valid. -/
theorem assocStep_valid {a : Assoc} {p : Packet} (h : assocB a = true) (hp : packB p = true) (hpt : (p.fr = a.fr ∧ p.to = a.to) ∨ (p.fr = a.to ∧ p.to = a.fr)) : assocB (assocStep a p).1 = true ∧ Stays a (assocStep a p).1 := by
  unfold assocStep
  rw [if_neg]
  · simp only
    split
    · exact ⟨stepChunks_valid _ _ _ _ h, stepChunks_stays _ _ _ _⟩
    · exact ⟨h, .rfl⟩
  · simp only [h, hp, Bool.not_true, Bool.false_or, Bool.and_eq_true, Bool.not_eq_true', byBOf, decide_eq_false_iff_not, decide_eq_true_eq]
    omega
end Go.Cap

/- Contracts: the program handles the chunks of an association. -/
namespace Go.Cap
open Go Go.Proofs
set_option maxRecDepth 100000
set_option linter.unusedSimpArgs false
set_option linter.unusedVariables false
attribute [local irreducible] Call Run Spec Le

/-- An association in a variable, with rows of its own. -/
def Assoc.cells3 (a : Assoc) (x y : Nat) : List AV := [.i a.fr, .i a.to, .i a.state, .bo a.byB, .i a.a.tag, .i a.a.streams, .i a.a.first, .sl x 0 a.a.sent.length, .i a.a.acked, .i a.b.tag, .i a.b.streams, .i a.b.first, .sl y 0 a.b.sent.length, .i a.b.acked]
def rowsD (l : List Data) : Blk := .row 7 (l.map Data.row)
def H3 (a : Assoc) : List (Nat × Blk) := [(0, .var (a.cells3 1 2)), (1, rowsD a.a.sent), (2, rowsD a.b.sent)]
structure AfterW (x : Assoc × Int) (r : AV) (hp : List (Nat × Blk)) (nx : Nat) (gs : List Nat) : Prop where
  res : r = .i x.2
  heap : ∃ p q, ((p = 1 ∧ q = 2) ∨ (3 ≤ p ∧ q = 2) ∨ (p = 1 ∧ 3 ≤ q)) ∧ hget hp 0 = some (.var (x.1.cells3 p q)) ∧ hget hp p = some (rowsD x.1.a.sent) ∧ hget hp q = some (rowsD x.1.b.sent)
def After (x : Assoc × Int) : AV → List (Nat × Blk) → Nat → List Nat → Prop := fun r hp nx gs => r = .i x.2 ∧ ∃ p q, ((p = 1 ∧ q = 2 ∧ nx = 3) ∨ (p = 3 ∧ q = 2 ∧ nx = 4) ∨ (p = 1 ∧ q = 3 ∧ nx = 4)) ∧ hp = [(0, .var (x.1.cells3 p q)), (p, rowsD x.1.a.sent), (q, rowsD x.1.b.sent)] ∧ gs = []
theorem AfterW.canon {f : Nat} {a : Assoc} {args : List AV} {x : Assoc × Int} (h : Spec Try.prog f 3 (H3 a) args (AfterW x)) : Spec Try.prog f 3 (H3 a) args (After x) := by
  refine Spec.le h fun r hp nx gs hq => ?_
  obtain ⟨rfl, p, q, hpq, h0, h1, h2⟩ := hq
  obtain ⟨a', k⟩ := x
  unfold Assoc.cells3 at h0
  unfold rowsD at h1 h2
  simp only at h0 h1 h2
  rcases hpq with ⟨rfl, rfl⟩ | ⟨hp3, rfl⟩ | ⟨rfl, hq3⟩
  · refine ⟨_, _, 3, [], ⟨rfl, 1, 2, .inl ⟨rfl, rfl, rfl⟩, rfl, rfl⟩, fun c hc => ?_⟩
    unfold Assoc.cells3 rowsD
    refine le_ev [] ?_
    simp only [hc, h0, h1, h2, go_sem, ↓reduceIte]
  · refine ⟨_, _, 4, [], ⟨rfl, 3, 2, .inr (.inl ⟨rfl, rfl, rfl⟩), rfl, rfl⟩, fun c hc => ?_⟩
    unfold Assoc.cells3 rowsD
    refine le_ev [(3, p)] ?_
    simp only [hc, h0, h1, h2, go_sem, ↓reduceIte]
    omega
  · refine ⟨_, _, 4, [], ⟨rfl, 1, 3, .inr (.inr ⟨rfl, rfl, rfl⟩), rfl, rfl⟩, fun c hc => ?_⟩
    unfold Assoc.cells3 rowsD
    refine le_ev [(3, q)] ?_
    simp only [hc, h0, h1, h2, go_sem, ↓reduceIte]
    omega
theorem call_three {c : Cx} {s : St} {f : Nat} {a : Assoc} {x : Assoc × Int} {as0 args : List AV} {K : AV → St → Prop} (i j k : Nat) (hs : Spec c.P f 3 (H3 a) as0 (After x)) (hd : i ≠ j ∧ i ≠ k ∧ j ≠ k) (h0 : hget s.hp i = some (.var (a.cells3 j k))) (h1 : hget s.hp j = some (rowsD a.a.sent)) (h2 : hget s.hp k = some (rowsD a.b.sent))
    (ha : args = as0.map (renA (idf [i, j, k] s.nx)))
    (hK1 : K (.i x.2) ⟨s.sl, (i, .var (x.1.cells3 j k)) :: (j, rowsD x.1.a.sent) :: (k, rowsD x.1.b.sent) :: hdel (hdel (hdel s.hp i) j) k, s.nx, s.gs⟩)
    (hK2 : K (.i x.2) ⟨s.sl, (i, .var (x.1.cells3 s.nx k)) :: (s.nx, rowsD x.1.a.sent) :: (k, rowsD x.1.b.sent) :: hdel (hdel (hdel s.hp i) j) k, s.nx + 1, s.gs⟩)
    (hK3 : K (.i x.2) ⟨s.sl, (i, .var (x.1.cells3 j s.nx)) :: (j, rowsD x.1.a.sent) :: (s.nx, rowsD x.1.b.sent) :: hdel (hdel (hdel s.hp i) j) k, s.nx + 1, s.gs⟩) : Call c f args s K := by
  refine call_spec [i, j, k] hs ?_ ?_ ?_ ha fun r hp' nx' gs' h => ?_
  · simp only [List.nodup_cons, List.mem_cons, List.not_mem_nil, or_false, List.nodup_nil, and_true, not_false_eq_true]; omega
  · intro p hp
    simp only [H3, List.mem_cons, List.not_mem_nil, or_false] at hp
    rcases hp with rfl | rfl | rfl
    · exact ⟨by simp, by simp only [idf_zero]; exact h0⟩
    · exact ⟨by simp, by simp only [idf_succ, idf_zero]; exact h1⟩
    · exact ⟨by simp, by simp only [idf_succ, idf_zero]; exact h2⟩
  · intro m hm
    have : m = 0 ∨ m = 1 ∨ m = 2 := by simp at hm; omega
    rcases this with rfl | rfl | rfl
    · exact ⟨_, List.mem_cons_self ..⟩
    · exact ⟨_, List.mem_cons_of_mem _ (List.mem_cons_self ..)⟩
    · exact ⟨_, List.mem_cons_of_mem _ (List.mem_cons_of_mem _ (List.mem_cons_self ..))⟩
  · obtain ⟨rfl, p, q, hpq, rfl, rfl⟩ := h
    rcases hpq with ⟨rfl, rfl, rfl⟩ | ⟨rfl, rfl, rfl⟩ | ⟨rfl, rfl, rfl⟩
    · exact hK1
    · exact hK2
    · exact hK3
theorem stepInit_cases (a : Assoc) (byB : Bool) (k : Chunk) (hk : k.kind = 1 ∨ k.kind = 2) (hst : 0 ≤ a.state ∧ a.state ≤ 7) :
    ((byB ≠ (k.kind == 2) ∨ a.state < (if byB then 1 else 0) ∨ 2 < a.state) ∧ stepInit a byB k = (a, 3)) ∨
    (byB = (k.kind == 2) ∧ (if byB then 1 else 0) ≤ a.state ∧ a.state ≤ 2 ∧
      ((initGet k = none ∧ stepInit a byB k = (a, 4)) ∨ ∃ x, initGet k = some x ∧
        ((a.state = (if byB then 1 else 0) ∧ stepInit a byB k = (({ a with state := a.state + 1 } : Assoc).put byB ⟨x.tag, x.streams, x.tsn, [], 0⟩, 0)) ∨
         (a.state ≠ (if byB then 1 else 0) ∧ (x.tag ≠ (a.own byB).tag ∨ x.streams ≠ (a.own byB).streams ∨ x.tsn ≠ (a.own byB).first) ∧ stepInit a byB k = (a, 7)) ∨
         (a.state ≠ (if byB then 1 else 0) ∧ x.tag = (a.own byB).tag ∧ x.streams = (a.own byB).streams ∧ x.tsn = (a.own byB).first ∧ stepInit a byB k = (a, 0))))) := by
  unfold stepInit
  cases byB
  · rcases hk with hk | hk
    · simp only [hk, inB, show ((1 : Int) == 2) = false from rfl, ne_eq, not_true_eq_false, false_or, Bool.not_false, Bool.and_true, decide_true, Bool.and_false, Bool.or_false, Bool.false_eq_true, if_false, true_and]
      by_cases h1 : a.state < 0 ∨ 2 < a.state
      · left
        refine ⟨h1, ?_⟩
        rw [decide_eq_false (show ¬ a.state = 0 by omega), decide_eq_false (show ¬ (1 ≤ a.state ∧ a.state ≤ 2) by omega)]
        rfl
      · right
        refine ⟨by omega, by omega, ?_⟩
        by_cases h0 : a.state = 0
        · rw [decide_eq_true h0, decide_eq_false (show ¬ (1 ≤ a.state ∧ a.state ≤ 2) by omega)]
          cases hi : initGet k with
          | none => exact .inl ⟨rfl, rfl⟩
          | some x => exact .inr ⟨x, rfl, .inl ⟨h0, rfl⟩⟩
        · rw [decide_eq_false h0, decide_eq_true (show (1 ≤ a.state ∧ a.state ≤ 2) by omega)]
          cases hi : initGet k with
          | none => exact .inl ⟨rfl, rfl⟩
          | some x =>
            refine .inr ⟨x, rfl, .inr ?_⟩
            by_cases hx : x.tag ≠ (a.own false).tag ∨ x.streams ≠ (a.own false).streams ∨ x.tsn ≠ (a.own false).first
            · exact .inl ⟨h0, hx, by show (if (x.tag ≠ (a.own false).tag ∨ x.streams ≠ (a.own false).streams ∨ x.tsn ≠ (a.own false).first) then (a, (7 : Int)) else (a, 0)) = (a, 7); exact if_pos hx⟩
            · exact .inr ⟨h0, by omega, by omega, by omega, by show (if (x.tag ≠ (a.own false).tag ∨ x.streams ≠ (a.own false).streams ∨ x.tsn ≠ (a.own false).first) then (a, (7 : Int)) else (a, 0)) = (a, 0); exact if_neg hx⟩
    · left
      exact ⟨.inl (by rw [hk]; decide), by simp [hk]⟩
  · rcases hk with hk | hk
    · left
      exact ⟨.inl (by rw [hk]; decide), by simp [hk]⟩
    · simp only [hk, inB, show ((2 : Int) == 2) = true from rfl, ne_eq, not_true_eq_false, false_or, Bool.not_true, Bool.and_true, decide_true, Bool.and_false, Bool.false_and, Bool.false_or, Bool.or_false, if_true, true_and]
      by_cases h1 : a.state < 1 ∨ 2 < a.state
      · left
        refine ⟨h1, ?_⟩
        rw [decide_eq_false (show ¬ a.state = 1 by omega), decide_eq_false (show ¬ a.state = 2 by omega)]
        rfl
      · right
        refine ⟨by omega, by omega, ?_⟩
        by_cases h0 : a.state = 1
        · rw [decide_eq_true h0, decide_eq_false (show ¬ a.state = 2 by omega)]
          cases hi : initGet k with
          | none => exact .inl ⟨rfl, rfl⟩
          | some x => exact .inr ⟨x, rfl, .inl ⟨h0, rfl⟩⟩
        · rw [decide_eq_false h0, decide_eq_true (show a.state = 2 by omega)]
          cases hi : initGet k with
          | none => exact .inl ⟨rfl, rfl⟩
          | some x =>
            refine .inr ⟨x, rfl, .inr ?_⟩
            by_cases hx : x.tag ≠ (a.own true).tag ∨ x.streams ≠ (a.own true).streams ∨ x.tsn ≠ (a.own true).first
            · exact .inl ⟨h0, hx, by show (if (x.tag ≠ (a.own true).tag ∨ x.streams ≠ (a.own true).streams ∨ x.tsn ≠ (a.own true).first) then (a, (7 : Int)) else (a, 0)) = (a, 7); exact if_pos hx⟩
            · exact .inr ⟨h0, by omega, by omega, by omega, by show (if (x.tag ≠ (a.own true).tag ∨ x.streams ≠ (a.own true).streams ∨ x.tsn ≠ (a.own true).first) then (a, (7 : Int)) else (a, 0)) = (a, 0); exact if_neg hx⟩
theorem tag0 {s : Side} (h : sideB s = true) (h2 : ¬ 0 < s.tag) : s.tag = 0 := by
  unfold sideB at h
  split at h
  · assumption
  · simp only [headB, Bool.and_eq_true, decide_eq_true_eq] at h
    omega
theorem greet_new {a : Assoc} {byB : Bool} {x : Init} {hp : List (Nat × Blk)} {nx : Nat} {gs : List Nat} (hv : assocB a = true) (h0 : a.state = if byB then 1 else 0)
    (h : (a.own byB).sent = [] → (a.own byB).acked = 0 → AfterW (({ a with state := a.state + 1 } : Assoc).put byB ⟨x.tag, x.streams, x.tsn, (a.own byB).sent, (a.own byB).acked⟩, 0) (.i 0) hp nx gs) :
    AfterW (({ a with state := a.state + 1 } : Assoc).put byB ⟨x.tag, x.streams, x.tsn, [], 0⟩, 0) (.i 0) hp nx gs := by
  obtain ⟨_, _, _, hst, hsa, hsb, hta, htb, _⟩ := assocB_iff.1 hv
  have hg : (a.own byB).sent = [] ∧ (a.own byB).acked = 0 := by
    cases byB
    · simp only [Bool.false_eq_true, if_false] at h0
      obtain ⟨g1, g2, _⟩ := side_none hsa (tag0 hsa (by omega))
      exact ⟨g1, g2⟩
    · simp only [if_true] at h0
      obtain ⟨g1, g2, _⟩ := side_none hsb (tag0 hsb (by omega))
      exact ⟨g1, g2⟩
  have := h hg.1 hg.2
  rwa [hg.1, hg.2] at this
set_option maxHeartbeats 2000000 in
theorem s_greet (a : Assoc) (k : Chunk) (byB : Bool) (hs : k.body.length ≤ 1000000) (hv : assocB a = true) (hk : k.kind = 1 ∨ k.kind = 2) : Spec Try.prog 127 3 (H3 a) [.ptr 0 0 0, k.av, .bo byB, .ptr 0 0 (if byB then 9 else 4)] (AfterW (stepInit a byB k)) := by
  have hig := s_implInitGet k (by omega)
  obtain ⟨_, _, _, hst, hsa, hsb, hta, htb, _⟩ := assocB_iff.1 hv
  have hw : IntKind.i64.wrap (a.state + 1) = a.state + 1 := wrap64 (by omega) (by omega)
  unfold H3 Assoc.cells3 rowsD
  unfold Chunk.av Init.av at hig
  unfold Chunk.av
  rcases stepInit_cases a byB k hk hst with ⟨h, e⟩ | ⟨h0, h1, h2, ⟨hi, e⟩ | ⟨x, hi, ⟨h3, e⟩ | ⟨h3, h4, e⟩ | ⟨h3, h4, h5, h6, e⟩⟩⟩
  all_goals
    rw [e]
    clear e
    try rw [hi] at hig
    cases byB
  all_goals
    refine mk127 rfl fun c hP hm => ?_
    unfold pc127
    simp only [hw, hm, go_sem, ↓reduceIte]
    repeat' first
      | refine And.intro ?_ ?_
      | intro _
      | (refine call_pure (hP ▸ hig) rfl rfl ?_; simp only [hw, hm, Option.getD_some, Option.getD_none, Option.isSome_some, Option.isSome_none, go_sem, ↓reduceIte])
  all_goals first
    | omega
    | exact ⟨rfl, 1, 2, .inl ⟨rfl, rfl⟩, rfl, rfl, rfl⟩
    | exact greet_new hv (by assumption) fun _ _ => ⟨rfl, 1, 2, .inl ⟨rfl, rfl⟩, rfl, rfl, rfl⟩
    | (exfalso; simp_all [Assoc.own]; done)
    | (exfalso; simp_all [Assoc.own]; omega)
end Go.Cap

/- Contracts: the program takes a part. -/
namespace Go.Cap
open Go Go.Proofs
set_option maxRecDepth 100000
set_option linter.unusedSimpArgs false
set_option linter.unusedVariables false
attribute [local irreducible] Call Run Spec Le

def takeD (a : Assoc) (byB : Bool) (d : Data) : Assoc × Int :=
  if l3 d.tsn (-(a.own byB).first) < (a.own byB).sent.length then (if eqData ((a.own byB).sent.getD (l3 d.tsn (-(a.own byB).first)).toNat noData) d then (a, 0) else (a, 7))
  else if a.state = 5 then (a, 3)
  else if (a.own byB).streams ≤ d.stream then (a, 5)
  else if ((a.own byB).sent.length : Int) < l3 d.tsn (-(a.own byB).first) then (a, 6)
  else if mayB (a.own byB).sent d = false then (a, 8)
  else if 12 ≤ (a.own byB).sent.length then (a, 11)
  else (a.put byB { a.own byB with sent := (a.own byB).sent ++ [d] }, 0)
def takeR (a : Assoc) (byB : Bool) (k : Chunk) : Assoc × Int := match dataGet k with
  | none => (a, 4)
  | some d => takeD a byB d
theorem takeR_eq {a : Assoc} {byB : Bool} (k : Chunk) (h : a.state = 4 ∨ (a.state = 3 ∧ byB = false) ∨ (a.state = 5 ∧ byB ≠ a.byB)) : stepData a byB k = takeR a byB k := by
  unfold stepData takeR
  have h1 : (decide (a.state = 4) || (decide (a.state = 3) && !byB)) = !decide (a.state = 5) := by
    rcases h with h | ⟨h, rfl⟩ | ⟨h, h2⟩ <;> simp [h]
  have h2 : (decide (a.state = 4) || (decide (a.state = 3) && !byB) || (decide (a.state = 5) && byB != a.byB)) = true := by
    rcases h with h | ⟨h, rfl⟩ | ⟨h, h2⟩
    · simp [h]
    · simp [h]
    · simp [h, h2]
  rw [h1] at h2
  simp only [h1, h2, Bool.not_true, Bool.false_eq_true, if_false]
  cases dataGet k with
  | none => rfl
  | some d =>
    unfold takeD
    simp only [Bool.not_not, decide_eq_true_eq, Bool.not_eq_true']
section
variable {a : Assoc} {byB : Bool} {d : Data} {o : Side} (ho : a.own byB = o)
include ho
theorem td0 (hk : l3 d.tsn (-o.first) < o.sent.length) (he : eqData (o.sent.getD (l3 d.tsn (-o.first)).toNat noData) d = true) : takeD a byB d = (a, 0) := by subst ho; unfold takeD; rw [if_pos hk, if_pos he]
theorem td7 (hk : l3 d.tsn (-o.first) < o.sent.length) (he : eqData (o.sent.getD (l3 d.tsn (-o.first)).toNat noData) d = false) : takeD a byB d = (a, 7) := by subst ho; unfold takeD; rw [if_pos hk, if_neg (by rw [he]; decide)]
theorem td3 (hk : ¬ l3 d.tsn (-o.first) < o.sent.length) (h5 : a.state = 5) : takeD a byB d = (a, 3) := by subst ho; unfold takeD; rw [if_neg hk, if_pos h5]
theorem td5 (hk : ¬ l3 d.tsn (-o.first) < o.sent.length) (h5 : ¬ a.state = 5) (h6 : o.streams ≤ d.stream) : takeD a byB d = (a, 5) := by subst ho; unfold takeD; rw [if_neg hk, if_neg h5, if_pos h6]
theorem td6 (hk : ¬ l3 d.tsn (-o.first) < o.sent.length) (h5 : ¬ a.state = 5) (h6 : ¬ o.streams ≤ d.stream) (h7 : (o.sent.length : Int) < l3 d.tsn (-o.first)) : takeD a byB d = (a, 6) := by subst ho; unfold takeD; rw [if_neg hk, if_neg h5, if_neg h6, if_pos h7]
theorem td8 (hk : ¬ l3 d.tsn (-o.first) < o.sent.length) (h5 : ¬ a.state = 5) (h6 : ¬ o.streams ≤ d.stream) (h7 : ¬ (o.sent.length : Int) < l3 d.tsn (-o.first)) (h8 : mayB o.sent d = false) : takeD a byB d = (a, 8) := by subst ho; unfold takeD; rw [if_neg hk, if_neg h5, if_neg h6, if_neg h7, if_pos h8]
theorem td11 (hk : ¬ l3 d.tsn (-o.first) < o.sent.length) (h5 : ¬ a.state = 5) (h6 : ¬ o.streams ≤ d.stream) (h7 : ¬ (o.sent.length : Int) < l3 d.tsn (-o.first)) (h8 : mayB o.sent d = true) (h9 : 12 ≤ o.sent.length) : takeD a byB d = (a, 11) := by subst ho; unfold takeD; rw [if_neg hk, if_neg h5, if_neg h6, if_neg h7, if_neg (by rw [h8]; decide), if_pos h9]
theorem tdG (hk : ¬ l3 d.tsn (-o.first) < o.sent.length) (h5 : ¬ a.state = 5) (h6 : ¬ o.streams ≤ d.stream) (h7 : ¬ (o.sent.length : Int) < l3 d.tsn (-o.first)) (h8 : mayB o.sent d = true) (h9 : ¬ 12 ≤ o.sent.length) : takeD a byB d = (a.put byB { o with sent := o.sent ++ [d] }, 0) := by subst ho; unfold takeD; rw [if_neg hk, if_neg h5, if_neg h6, if_neg h7, if_neg (by rw [h8]; decide), if_neg h9]
end
theorem side_first {s : Side} (h : sideB s = true) : (0 ≤ s.first ∧ s.first < 65536) ∧ s.sent.length ≤ 12 := by
  unfold sideB at h
  split at h
  · rename_i ht
    simp only [noneB, Bool.and_eq_true, beq_iff_eq, decide_eq_true_eq] at h
    obtain ⟨⟨⟨h1, h2⟩, h3⟩, h4⟩ := h
    rw [h2]
    constructor
    · omega
    · have : s.sent = [] := by first | exact h3 | (simpa using h3)
      simp [this]
  · simp only [headB, serialB, Bool.and_eq_true, decide_eq_true_eq] at h
    omega
set_option maxHeartbeats 4000000 in
theorem s_take (a : Assoc) (k : Chunk) (byB : Bool) (hs : k.body.length ≤ 1000000) (hv : assocB a = true) : Spec Try.prog 128 3 (H3 a) [.ptr 0 0 0, k.av, .ptr 0 0 (if byB then 9 else 4)] (AfterW (takeR a byB k)) := by
  have hig := s_implDataGet k (by omega)
  obtain ⟨_, _, _, hst, hsa, hsb, hta, htb, _⟩ := assocB_iff.1 hv
  unfold H3 Assoc.cells3 rowsD takeR
  unfold Chunk.av Data.av at hig
  unfold Chunk.av
  cases hg : dataGet k with
  | none =>
    rw [hg] at hig
    cases byB
    all_goals
      refine mk128 rfl fun c hP hm => ?_
      unfold pc128
      simp only [hm, go_sem, ↓reduceIte]
      refine call_pure (hP ▸ hig) rfl rfl ?_
      simp only [hm, Option.getD_some, Option.getD_none, Option.isSome_some, Option.isSome_none, go_sem, ↓reduceIte]
    all_goals first
      | exact ⟨rfl, 1, 2, .inl ⟨rfl, rfl⟩, rfl, rfl, rfl⟩
  | some d =>
    rw [hg] at hig
    have hdb := dataGet_ok' hg
    obtain ⟨d1, d2, d3, d4, d5⟩ := data_ok hdb
    obtain ⟨⟨o1, o2⟩, o3⟩ := side_first (show sideB (a.own byB) = true by cases byB <;> assumption)
    have hw1 : IntKind.i64.wrap (d.tsn - (a.own byB).first) = d.tsn - (a.own byB).first := wrap64 (by omega) (by omega)
    have hw2 : IntKind.i64.wrap (d.tsn - (a.own byB).first + 65536) = d.tsn - (a.own byB).first + 65536 := wrap64 (by omega) (by omega)
    have hn : (d.tsn - (a.own byB).first + 65536).tmod 65536 = l3 d.tsn (-(a.own byB).first) := by rw [tmod_nn (by omega)]; unfold l3; omega
    have hM := s_mayFollow (a.own byB).sent d (by omega)
    unfold Data.av at hM
    have hK := l3_range d.tsn (-(a.own byB).first)
    have hgx : ∀ hil : (l3 d.tsn (-(a.own byB).first)).toNat < (a.own byB).sent.length, (a.own byB).sent.getD (l3 d.tsn (-(a.own byB).first)).toNat noData = (a.own byB).sent[(l3 d.tsn (-(a.own byB).first)).toNat] := fun hil => by simp [List.getD_eq_getElem?_getD, hil]
    cases byB
    all_goals
      simp only [Assoc.own, if_true, Bool.false_eq_true, if_false] at o1 o2 o3 hw1 hw2 hn hM hK hgx
      refine mr128 rfl fun c hP hm => ?_
      unfold pc128
      refine run_seq (run_wpc _ _ _ _ _ ?_)
      simp only [hm, go_sem, ↓reduceIte]
      refine run_seq (run_wpc _ _ _ _ _ ?_)
      simp only [hm, go_sem, ↓reduceIte]
      refine call_pure (hP ▸ hig) rfl rfl ?_
      simp only [hm, Option.getD_some, Option.getD_none, Option.isSome_some, Option.isSome_none, go_sem, ↓reduceIte]
      refine run_seq (run_wpc _ _ _ _ _ ?_)
      simp only [hm, go_sem, ↓reduceIte]
      refine run_seq (run_wpc _ _ _ _ _ ?_)
      simp only [hw1, hw2, hn, hm, go_sem, ↓reduceIte]
      refine run_seq (run_wpc _ _ _ _ _ ?_)
      simp only [hw1, hw2, hn, hm, go_sem, ↓reduceIte]
      intro _
      refine ⟨fun hk => ?_, fun hk => ?_⟩
    · have hil : (l3 d.tsn (-a.a.first)).toNat < a.a.sent.length := by omega
      refine ⟨⟨hK.1, hk⟩, hil, ?_⟩
      have hgt := getD_map (f := Data.row) hil
      have e0 := fun he => td0 (a := a) (byB := false) (d := d) (o := a.a) rfl hk he
      have e7 := fun he => td7 (a := a) (byB := false) (d := d) (o := a.a) rfl hk he
      rw [hgx hil] at e0 e7
      generalize a.a.sent[(l3 d.tsn (-a.a.first)).toNat] = x at hgt e0 e7
      simp only [hgt, Data.row, hm, go_sem, ↓reduceIte]
      repeat' first | refine And.intro ?_ ?_ | intro _
      all_goals first
        | (rename_i he; rw [e0 he]; exact ⟨rfl, 1, 2, .inl ⟨rfl, rfl⟩, rfl, rfl, rfl⟩)
        | (rename_i he; rw [e7 he]; exact ⟨rfl, 1, 2, .inl ⟨rfl, rfl⟩, rfl, rfl, rfl⟩)
    · refine run_seq (run_wpc _ _ _ _ _ ?_)
      simp only [hm, go_sem, ↓reduceIte]
      repeat' first
        | refine And.intro ?_ ?_
        | intro _
        | (refine call_flat (hP ▸ hM) rfl (.cons (Vw.full rfl (by simp)) (.cons (vw_self _ _ rfl) .nil)) ?_; simp only [hm, go_sem, ↓reduceIte])
      all_goals first
        | (rw [td3 (o := a.a) rfl (by omega) (by omega)]; exact ⟨rfl, 1, 2, .inl ⟨rfl, rfl⟩, rfl, rfl, rfl⟩)
        | (rw [td5 (o := a.a) rfl (by omega) (by omega) (by omega)]; exact ⟨rfl, 1, 2, .inl ⟨rfl, rfl⟩, rfl, rfl, rfl⟩)
        | (rw [td6 (o := a.a) rfl (by omega) (by omega) (by omega) (by omega)]; exact ⟨rfl, 1, 2, .inl ⟨rfl, rfl⟩, rfl, rfl, rfl⟩)
        | (rw [td8 (o := a.a) rfl (by omega) (by omega) (by omega) (by omega) (by assumption)]; exact ⟨rfl, 1, 2, .inl ⟨rfl, rfl⟩, rfl, rfl, rfl⟩)
        | (rw [td11 (o := a.a) rfl (by omega) (by omega) (by omega) (by omega) (by assumption) (by omega)]; exact ⟨rfl, 1, 2, .inl ⟨rfl, rfl⟩, rfl, rfl, rfl⟩)
        | skip
      refine run_seq (run_wpc _ _ _ _ _ ?_)
      simp only [take_map_len, List.length_map, hm, go_sem, ↓reduceIte]
      refine ⟨by omega, ?_⟩
      refine run_wpc _ _ _ _ _ ?_
      simp only [hm, go_sem, ↓reduceIte]
      rw [tdG (o := a.a) rfl (by omega) (by omega) (by omega) (by omega) (by assumption) (by omega)]
      have hm1 : List.map Data.row a.a.sent ++ [[.n .i64 d.tsn, .n .i64 d.stream, .n .i64 d.ssn, .b d.first, .b d.last, .b d.loose, .s d.text]] = (a.a.sent ++ [d]).map Data.row := by rw [List.map_append]; rfl
      have hl1 : a.a.sent.length + 1 = (a.a.sent ++ [d]).length := by simp
      rw [hm1, hl1]
      exact ⟨rfl, 6, 2, .inr (.inl ⟨by omega, rfl⟩), rfl, rfl, rfl⟩
    · have hil : (l3 d.tsn (-a.b.first)).toNat < a.b.sent.length := by omega
      refine ⟨⟨hK.1, hk⟩, hil, ?_⟩
      have hgt := getD_map (f := Data.row) hil
      have e0 := fun he => td0 (a := a) (byB := true) (d := d) (o := a.b) rfl hk he
      have e7 := fun he => td7 (a := a) (byB := true) (d := d) (o := a.b) rfl hk he
      rw [hgx hil] at e0 e7
      generalize a.b.sent[(l3 d.tsn (-a.b.first)).toNat] = x at hgt e0 e7
      simp only [hgt, Data.row, hm, go_sem, ↓reduceIte]
      repeat' first | refine And.intro ?_ ?_ | intro _
      all_goals first
        | (rename_i he; rw [e0 he]; exact ⟨rfl, 1, 2, .inl ⟨rfl, rfl⟩, rfl, rfl, rfl⟩)
        | (rename_i he; rw [e7 he]; exact ⟨rfl, 1, 2, .inl ⟨rfl, rfl⟩, rfl, rfl, rfl⟩)
    · refine run_seq (run_wpc _ _ _ _ _ ?_)
      simp only [hm, go_sem, ↓reduceIte]
      repeat' first
        | refine And.intro ?_ ?_
        | intro _
        | (refine call_flat (hP ▸ hM) rfl (.cons (Vw.full rfl (by simp)) (.cons (vw_self _ _ rfl) .nil)) ?_; simp only [hm, go_sem, ↓reduceIte])
      all_goals first
        | (rw [td3 (o := a.b) rfl (by omega) (by omega)]; exact ⟨rfl, 1, 2, .inl ⟨rfl, rfl⟩, rfl, rfl, rfl⟩)
        | (rw [td5 (o := a.b) rfl (by omega) (by omega) (by omega)]; exact ⟨rfl, 1, 2, .inl ⟨rfl, rfl⟩, rfl, rfl, rfl⟩)
        | (rw [td6 (o := a.b) rfl (by omega) (by omega) (by omega) (by omega)]; exact ⟨rfl, 1, 2, .inl ⟨rfl, rfl⟩, rfl, rfl, rfl⟩)
        | (rw [td8 (o := a.b) rfl (by omega) (by omega) (by omega) (by omega) (by assumption)]; exact ⟨rfl, 1, 2, .inl ⟨rfl, rfl⟩, rfl, rfl, rfl⟩)
        | (rw [td11 (o := a.b) rfl (by omega) (by omega) (by omega) (by omega) (by assumption) (by omega)]; exact ⟨rfl, 1, 2, .inl ⟨rfl, rfl⟩, rfl, rfl, rfl⟩)
        | skip
      refine run_seq (run_wpc _ _ _ _ _ ?_)
      simp only [take_map_len, List.length_map, hm, go_sem, ↓reduceIte]
      refine ⟨by omega, ?_⟩
      refine run_wpc _ _ _ _ _ ?_
      simp only [hm, go_sem, ↓reduceIte]
      rw [tdG (o := a.b) rfl (by omega) (by omega) (by omega) (by omega) (by assumption) (by omega)]
      have hm1 : List.map Data.row a.b.sent ++ [[.n .i64 d.tsn, .n .i64 d.stream, .n .i64 d.ssn, .b d.first, .b d.last, .b d.loose, .s d.text]] = (a.b.sent ++ [d]).map Data.row := by rw [List.map_append]; rfl
      have hl1 : a.b.sent.length + 1 = (a.b.sent ++ [d]).length := by simp
      rw [hm1, hl1]
      exact ⟨rfl, 1, 6, .inr (.inr ⟨rfl, by omega⟩), rfl, rfl, rfl⟩
end Go.Cap

/- Contracts: the program takes a receipt. -/
namespace Go.Cap
open Go Go.Proofs
set_option maxRecDepth 100000
set_option linter.unusedSimpArgs false
set_option linter.unusedVariables false
attribute [local irreducible] Call Run Spec Le

def ackD (a : Assoc) (byB : Bool) (x : Sack) : Assoc × Int :=
  if l3d (l3 (a.other byB).first (-1)) x.cum < 0 ∨ ((a.other byB).sent.length : Int) < l3d (l3 (a.other byB).first (-1)) x.cum ∨ ((a.other byB).sent.length : Int) < l3d (l3 (a.other byB).first (-1)) x.cum + lastTo x.gaps then (a, 9)
  else (a.put (!byB) { a.other byB with acked := max (a.other byB).acked (l3d (l3 (a.other byB).first (-1)) x.cum) }, 0)
def ackR (a : Assoc) (byB : Bool) (k : Chunk) : Assoc × Int := match sackGet k with
  | none => (a, 4)
  | some x => ackD a byB x
theorem ackR_eq {a : Assoc} {byB : Bool} (k : Chunk) (h : a.state = 4 ∨ a.state = 5) : stepSack a byB k = ackR a byB k := by
  have hst : inB a.state 4 5 = true := inB_iff.2 (by omega)
  unfold stepSack ackR
  simp only [hst, Bool.not_true, Bool.false_eq_true, if_false]
  cases sackGet k with
  | none => rfl
  | some x =>
    unfold ackD inB
    simp only
    by_cases h2 : l3d (l3 (a.other byB).first (-1)) x.cum < 0 ∨ ((a.other byB).sent.length : Int) < l3d (l3 (a.other byB).first (-1)) x.cum ∨ ((a.other byB).sent.length : Int) < l3d (l3 (a.other byB).first (-1)) x.cum + lastTo x.gaps
    · rw [if_pos h2, if_pos]
      simp only [Bool.or_eq_true, Bool.not_eq_true', decide_eq_false_iff_not, decide_eq_true_eq]
      omega
    · rw [if_neg h2, if_neg]
      simp only [Bool.or_eq_true, Bool.not_eq_true', decide_eq_false_iff_not, decide_eq_true_eq]
      omega
section
variable {a : Assoc} {byB : Bool} {x : Sack} {o : Side} (ho : a.other byB = o)
include ho
theorem ad9 (h : l3d (l3 o.first (-1)) x.cum < 0 ∨ (o.sent.length : Int) < l3d (l3 o.first (-1)) x.cum ∨ (o.sent.length : Int) < l3d (l3 o.first (-1)) x.cum + lastTo x.gaps) : ackD a byB x = (a, 9) := by subst ho; unfold ackD; rw [if_pos h]
theorem adG (h : ¬ (l3d (l3 o.first (-1)) x.cum < 0 ∨ (o.sent.length : Int) < l3d (l3 o.first (-1)) x.cum ∨ (o.sent.length : Int) < l3d (l3 o.first (-1)) x.cum + lastTo x.gaps)) : ackD a byB x = (a.put (!byB) { o with acked := max o.acked (l3d (l3 o.first (-1)) x.cum) }, 0) := by subst ho; unfold ackD; rw [if_neg h]
end
theorem lt_max (a b : Int) : (if a < b then b else a) = max a b := by split <;> omega
set_option maxHeartbeats 4000000 in
theorem s_ack (a : Assoc) (k : Chunk) (byB : Bool) (hs : k.body.length ≤ 1000000) (hv : assocB a = true) : Spec Try.prog 129 3 (H3 a) [k.av, .ptr 0 0 (if byB then 4 else 9)] (AfterW (ackR a byB k)) := by
  have hig := s_implSackGet k (by omega)
  obtain ⟨_, _, _, hst, hsa, hsb, hta, htb, _⟩ := assocB_iff.1 hv
  unfold H3 Assoc.cells3 rowsD ackR
  unfold Chunk.av at hig ⊢
  cases hg : sackGet k with
  | none =>
    rw [hg] at hig
    cases byB
    all_goals
      refine mr129 rfl fun c hP hm => ?_
      unfold pc129
      refine run_seq (run_wpc _ _ _ _ _ ?_)
      simp only [hm, go_sem, ↓reduceIte]
      refine run_seq (run_wpc _ _ _ _ _ ?_)
      simp only [hm, go_sem, ↓reduceIte]
      refine call_dataP (hP ▸ hig) rfl rfl ?_
      simp only [Option.getD_none, Option.isSome_none, noSack, Sack.ro, List.map_nil, hm, go_sem, ↓reduceIte]
      refine run_seq (run_wpc _ _ _ _ _ ?_)
      simp only [hm, go_sem, ↓reduceIte]
    all_goals first
      | exact ⟨rfl, 1, 2, .inl ⟨rfl, rfl⟩, rfl, rfl, rfl⟩
  | some x =>
    rw [hg] at hig
    have hx := sackGet_ok hg
    simp only [sackB, serialB, Bool.and_eq_true, decide_eq_true_eq] at hx
    have hto := gapsB_to (by decide) hx.2
    obtain ⟨⟨o1, o2⟩, o3⟩ := side_first (show sideB (a.other byB) = true by cases byB <;> assumption)
    have hr := l3_range (a.other byB).first (-1)
    have hA := s_SerialAdd1 (a.other byB).first (-1) (by unfold serialB; exact decide_eq_true ⟨o1, o2⟩)
    have hD := s_implSerialDiff (l3 (a.other byB).first (-1)) x.cum hr (by omega)
    have hE : -32768 ≤ l3d (l3 (a.other byB).first (-1)) x.cum ∧ l3d (l3 (a.other byB).first (-1)) x.cum ≤ 32768 := by
      have := l3_range x.cum (-(l3 (a.other byB).first (-1)))
      unfold l3d; split <;> omega
    have e9 := fun h => ad9 (a := a) (byB := byB) (x := x) rfl h
    have eG := fun h => adG (a := a) (byB := byB) (x := x) rfl h
    cases byB
    all_goals
      simp only [Assoc.other, if_true, Bool.false_eq_true, if_false] at o1 o2 o3 hr hA hD hE e9 eG
    · generalize l3d (l3 a.b.first (-1)) x.cum = e at *
      refine mr129 rfl fun c hP hm => ?_
      unfold pc129
      refine run_seq (run_wpc _ _ _ _ _ ?_)
      simp only [hm, go_sem, ↓reduceIte]
      refine run_seq (run_wpc _ _ _ _ _ ?_)
      simp only [hm, go_sem, ↓reduceIte]
      refine call_dataP (hP ▸ hig) rfl rfl ?_
      simp only [Option.getD_some, Option.isSome_some, Sack.ro, hm, go_sem, ↓reduceIte]
      refine run_seq (run_wpc _ _ _ _ _ ?_)
      simp only [hm, go_sem, ↓reduceIte]
      refine run_seq (run_wpc _ _ _ _ _ ?_)
      simp only [hm, go_sem, ↓reduceIte]
      repeat' first
        | refine And.intro ?_ ?_
        | intro _
        | (refine call_pure (hP ▸ hA) rfl rfl ?_; simp only [hm, go_sem, ↓reduceIte])
        | (refine call_pure (hP ▸ hD) rfl rfl ?_; simp only [hm, go_sem, ↓reduceIte])
      have hlen : ((x.gaps.map Gap.row).length : Int) = x.gaps.length := by simp
      refine run_seq (run_wpc _ _ _ _ _ ?_)
      simp only [hm, go_sem, ↓reduceIte]
      repeat' first
        | refine And.intro ?_ ?_
        | intro _
      all_goals first
        | omega
        | (rw [e9 (by omega)]; exact ⟨rfl, 1, 2, .inl ⟨rfl, rfl⟩, rfl, rfl, rfl⟩)
        | skip
      refine run_seq (run_wpc _ _ _ _ _ ?_)
      rcases Nat.eq_zero_or_pos x.gaps.length with h0 | h0
      · have hl0 : lastTo x.gaps = 0 := by rw [List.length_eq_zero_iff.1 h0]; rfl
        simp only [hlen, h0, hm, go_sem, ↓reduceIte]
        repeat' first
          | refine And.intro ?_ ?_
          | intro _
        all_goals first
          | omega
          | (rw [e9 (by omega)]; exact ⟨rfl, 1, 2, .inl ⟨rfl, rfl⟩, rfl, rfl, rfl⟩)
          | (refine run_wpc _ _ _ _ _ ?_
             simp only [hm, go_sem, ↓reduceIte]
             rw [eG (by omega), lt_max]
             exact ⟨rfl, 1, 2, .inl ⟨rfl, rfl⟩, rfl, rfl, rfl⟩)
      · have hl0 := lastTo_eq h0
        have hgm : x.gaps[x.gaps.length - 1] ∈ x.gaps := List.getElem_mem _
        have ht := hto _ hgm
        have hgt := getD_map (f := Gap.row) (show x.gaps.length - 1 < x.gaps.length by omega)
        have hw1 : IntKind.i64.wrap ((x.gaps.length : Int) - 1) = (x.gaps.length : Int) - 1 := wrap64 (by omega) (by omega)
        have hw2 : ((x.gaps.length : Int) - 1).toNat = x.gaps.length - 1 := by omega
        generalize x.gaps[x.gaps.length - 1] = g at hl0 ht hgt
        have hw3 : IntKind.i64.wrap (e + g.to) = e + g.to := wrap64 (by omega) (by omega)
        simp only [hlen, hw1, hw2, hw3, hgt, Gap.row, hm, go_sem, ↓reduceIte]
        repeat' first
          | refine And.intro ?_ ?_
          | intro _
        all_goals first
          | omega
          | (rw [e9 (by omega)]; exact ⟨rfl, 1, 2, .inl ⟨rfl, rfl⟩, rfl, rfl, rfl⟩)
          | (refine run_wpc _ _ _ _ _ ?_
             simp only [hm, go_sem, ↓reduceIte]
             rw [eG (by omega), lt_max]
             exact ⟨rfl, 1, 2, .inl ⟨rfl, rfl⟩, rfl, rfl, rfl⟩)
    · generalize l3d (l3 a.a.first (-1)) x.cum = e at *
      refine mr129 rfl fun c hP hm => ?_
      unfold pc129
      refine run_seq (run_wpc _ _ _ _ _ ?_)
      simp only [hm, go_sem, ↓reduceIte]
      refine run_seq (run_wpc _ _ _ _ _ ?_)
      simp only [hm, go_sem, ↓reduceIte]
      refine call_dataP (hP ▸ hig) rfl rfl ?_
      simp only [Option.getD_some, Option.isSome_some, Sack.ro, hm, go_sem, ↓reduceIte]
      refine run_seq (run_wpc _ _ _ _ _ ?_)
      simp only [hm, go_sem, ↓reduceIte]
      refine run_seq (run_wpc _ _ _ _ _ ?_)
      simp only [hm, go_sem, ↓reduceIte]
      repeat' first
        | refine And.intro ?_ ?_
        | intro _
        | (refine call_pure (hP ▸ hA) rfl rfl ?_; simp only [hm, go_sem, ↓reduceIte])
        | (refine call_pure (hP ▸ hD) rfl rfl ?_; simp only [hm, go_sem, ↓reduceIte])
      have hlen : ((x.gaps.map Gap.row).length : Int) = x.gaps.length := by simp
      refine run_seq (run_wpc _ _ _ _ _ ?_)
      simp only [hm, go_sem, ↓reduceIte]
      repeat' first
        | refine And.intro ?_ ?_
        | intro _
      all_goals first
        | omega
        | (rw [e9 (by omega)]; exact ⟨rfl, 1, 2, .inl ⟨rfl, rfl⟩, rfl, rfl, rfl⟩)
        | skip
      refine run_seq (run_wpc _ _ _ _ _ ?_)
      rcases Nat.eq_zero_or_pos x.gaps.length with h0 | h0
      · have hl0 : lastTo x.gaps = 0 := by rw [List.length_eq_zero_iff.1 h0]; rfl
        simp only [hlen, h0, hm, go_sem, ↓reduceIte]
        repeat' first
          | refine And.intro ?_ ?_
          | intro _
        all_goals first
          | omega
          | (rw [e9 (by omega)]; exact ⟨rfl, 1, 2, .inl ⟨rfl, rfl⟩, rfl, rfl, rfl⟩)
          | (refine run_wpc _ _ _ _ _ ?_
             simp only [hm, go_sem, ↓reduceIte]
             rw [eG (by omega), lt_max]
             exact ⟨rfl, 1, 2, .inl ⟨rfl, rfl⟩, rfl, rfl, rfl⟩)
      · have hl0 := lastTo_eq h0
        have hgm : x.gaps[x.gaps.length - 1] ∈ x.gaps := List.getElem_mem _
        have ht := hto _ hgm
        have hgt := getD_map (f := Gap.row) (show x.gaps.length - 1 < x.gaps.length by omega)
        have hw1 : IntKind.i64.wrap ((x.gaps.length : Int) - 1) = (x.gaps.length : Int) - 1 := wrap64 (by omega) (by omega)
        have hw2 : ((x.gaps.length : Int) - 1).toNat = x.gaps.length - 1 := by omega
        generalize x.gaps[x.gaps.length - 1] = g at hl0 ht hgt
        have hw3 : IntKind.i64.wrap (e + g.to) = e + g.to := wrap64 (by omega) (by omega)
        simp only [hlen, hw1, hw2, hw3, hgt, Gap.row, hm, go_sem, ↓reduceIte]
        repeat' first
          | refine And.intro ?_ ?_
          | intro _
        all_goals first
          | omega
          | (rw [e9 (by omega)]; exact ⟨rfl, 1, 2, .inl ⟨rfl, rfl⟩, rfl, rfl, rfl⟩)
          | (refine run_wpc _ _ _ _ _ ?_
             simp only [hm, go_sem, ↓reduceIte]
             rw [eG (by omega), lt_max]
             exact ⟨rfl, 1, 2, .inl ⟨rfl, rfl⟩, rfl, rfl, rfl⟩)
end Go.Cap

/- Contracts: the program handles a chunk. -/
namespace Go.Cap
open Go Go.Proofs
set_option maxRecDepth 100000
set_option linter.unusedSimpArgs false
set_option linter.unusedVariables false
attribute [local irreducible] Call Run Spec Le

section
variable {a : Assoc} {b : Bool} {k : Chunk}
theorem sc12 (hk : k.kind = 1 ∨ k.kind = 2) : stepChunk a b k = stepInit a b k := by unfold stepChunk; rw [if_pos hk]
theorem sc0 (hk : k.kind = 0) (h : a.state = 4 ∨ (a.state = 3 ∧ b = false) ∨ (a.state = 5 ∧ b ≠ a.byB)) : stepChunk a b k = takeR a b k := by
  unfold stepChunk; rw [if_neg (by omega), if_pos hk, takeR_eq k h]
theorem sc0n (hk : k.kind = 0) (h : a.state ≠ 4) (h2 : a.state = 3 → b = true) (h3 : a.state = 5 → (b == a.byB) = true) : stepChunk a b k = (a, 3) := by
  unfold stepChunk stepData
  rw [if_neg (by omega), if_pos hk]
  simp only
  rw [if_pos]
  rw [decide_eq_false h]
  by_cases h5 : a.state = 3
  · rw [h2 h5, decide_eq_false (show ¬ a.state = 5 by omega)]; simp
  · rw [decide_eq_false h5]
    by_cases h6 : a.state = 5
    · have : b = a.byB := by simpa using h3 h6
      rw [this]; simp
    · rw [decide_eq_false h6]; simp
theorem sc3 (hk : k.kind = 3) (h : a.state = 4 ∨ a.state = 5) : stepChunk a b k = ackR a b k := by
  unfold stepChunk; rw [if_neg (by omega), if_neg (by omega), if_pos hk, ackR_eq k h]
theorem sc3n (hk : k.kind = 3) (h : ¬ (a.state = 4 ∨ a.state = 5)) : stepChunk a b k = (a, 3) := by
  unfold stepChunk stepSack
  rw [if_neg (by omega), if_neg (by omega), if_pos hk]
  have hst : inB a.state 4 5 = false := decide_eq_false (by omega)
  simp only [hst, Bool.not_false, if_true]
theorem scE (hk : k.kind = 6 ∨ k.kind = 7 ∨ k.kind = 8 ∨ k.kind = 14) : stepChunk a b k = stepEnd a b k.kind := by
  unfold stepChunk; rw [if_neg (by omega), if_neg (by omega), if_neg (by omega), if_pos hk]
theorem scR (h0 : k.kind ≠ 0) (h1 : k.kind ≠ 1) (h2 : k.kind ≠ 2) (h3 : k.kind ≠ 3) (h6 : k.kind ≠ 6) (h7 : k.kind ≠ 7) (h8 : k.kind ≠ 8) (h14 : k.kind ≠ 14) : stepChunk a b k = stepRest a b k.kind := by
  unfold stepChunk; rw [if_neg (by omega), if_neg (by omega), if_neg (by omega), if_neg (by omega)]
theorem sc6 (hk : k.kind = 6) : stepChunk a b k = if 1 ≤ a.state ∧ a.state ≤ 6 then ({ a with state := 7 }, 0) else (a, 3) := by
  rw [scE (by omega), hk]; simp [stepEnd, inB]
theorem sc7t (hk : k.kind = 7) (hq : (b == a.byB) = true) {o : Side} (ho : a.own b = o) : stepChunk a b k = if a.state = 4 then (if o.acked = o.sent.length then ({ a with state := 5, byB := b }, 0) else (a, 10)) else if 5 ≤ a.state ∧ a.state ≤ 6 then (a, 0) else (a, 3) := by
  rw [scE (by omega), hk]; simp [stepEnd, inB, ho, hq]
theorem sc7f (hk : k.kind = 7) (hq : (b == a.byB) = false) {o : Side} (ho : a.own b = o) : stepChunk a b k = if a.state = 4 then (if o.acked = o.sent.length then ({ a with state := 5, byB := b }, 0) else (a, 10)) else (a, 3) := by
  rw [scE (by omega), hk]; simp [stepEnd, inB, ho, hq]
theorem sc8t (hk : k.kind = 8) (hq : (b == a.byB) = true) : stepChunk a b k = (a, 3) := by
  rw [scE (by omega), hk]
  have : b = a.byB := by simpa using hq
  simp [stepEnd, inB, this]
theorem sc8f (hk : k.kind = 8) (hq : (b == a.byB) = false) {o : Side} (ho : a.own b = o) : stepChunk a b k = if a.state = 5 then (if o.acked = o.sent.length then ({ a with state := 6 }, 0) else (a, 10)) else if a.state = 6 then (a, 0) else (a, 3) := by
  rw [scE (by omega), hk]
  have hq2 : (b != a.byB) = true := by rw [bne, hq]; rfl
  unfold stepEnd inB
  rw [ho, hq2]
  by_cases h5 : a.state = 5
  · by_cases hd : o.acked = o.sent.length
    · simp [h5, hd]
    · simp [h5, hd]
  · by_cases h6 : a.state = 6
    · obtain ⟨_, _, st, _, _, _⟩ := a
      simp only at h6
      subst h6
      simp
    · rw [if_neg h5, if_neg h6]
      simp only [Int.reduceEq, if_false]
      rw [if_pos trivial, if_neg]
      simp only [Bool.and_true, decide_eq_true_eq]
      omega
theorem sc14t (hk : k.kind = 14) (hq : (b == a.byB) = true) : stepChunk a b k = if a.state = 6 then ({ a with state := 7 }, 0) else (a, 3) := by
  rw [scE (by omega), hk]; simp [stepEnd, inB, hq]
theorem sc14f (hk : k.kind = 14) (hq : (b == a.byB) = false) : stepChunk a b k = (a, 3) := by
  rw [scE (by omega), hk]; simp [stepEnd, inB, hq]
theorem sc10a (hk : k.kind = 10) (hb : b = false) : stepChunk a b k = if a.state = 2 then ({ a with state := 3 }, 0) else if 3 ≤ a.state ∧ a.state ≤ 4 then (a, 0) else (a, 3) := by
  rw [scR (by omega) (by omega) (by omega) (by omega) (by omega) (by omega) (by omega) (by omega), hk, hb]
  unfold stepRest inB
  rw [if_pos rfl]
  by_cases h2 : a.state = 2
  · simp [h2, show max (2 : Int) 3 = 3 by decide]
  · by_cases h3 : 3 ≤ a.state ∧ a.state ≤ 4
    · rw [if_neg h2, if_pos h3, if_pos (by simp; omega)]
      have : max a.state 3 = a.state := by omega
      rw [this]
    · rw [if_neg h2, if_neg h3, if_neg (by simp; omega)]
theorem sc10b (hk : k.kind = 10) (hb : b = true) : stepChunk a b k = (a, 3) := by
  rw [scR (by omega) (by omega) (by omega) (by omega) (by omega) (by omega) (by omega) (by omega), hk, hb]
  simp [stepRest]
theorem sc11a (hk : k.kind = 11) (hb : b = true) : stepChunk a b k = if 3 ≤ a.state ∧ a.state ≤ 4 then ({ a with state := 4 }, 0) else (a, 3) := by
  rw [scR (by omega) (by omega) (by omega) (by omega) (by omega) (by omega) (by omega) (by omega), hk, hb]
  simp [stepRest, inB]
theorem sc11b (hk : k.kind = 11) (hb : b = false) : stepChunk a b k = (a, 3) := by
  rw [scR (by omega) (by omega) (by omega) (by omega) (by omega) (by omega) (by omega) (by omega), hk, hb]
  simp [stepRest]
theorem sc459 (hk : k.kind = 4 ∨ k.kind = 5 ∨ k.kind = 9) : stepChunk a b k = if 3 ≤ a.state ∧ a.state ≤ 6 then (a, 0) else (a, 3) := by
  rw [scR (by omega) (by omega) (by omega) (by omega) (by omega) (by omega) (by omega) (by omega)]
  unfold stepRest inB
  rw [if_neg (by omega), if_neg (by omega), if_pos hk]
  simp only [decide_eq_true_eq]
theorem scN (h0 : k.kind ≠ 0) (h1 : k.kind ≠ 1) (h2 : k.kind ≠ 2) (h3 : k.kind ≠ 3) (h6 : k.kind ≠ 6) (h7 : k.kind ≠ 7) (h8 : k.kind ≠ 8) (h14 : k.kind ≠ 14) (h10 : k.kind ≠ 10) (h11 : k.kind ≠ 11) (h4 : k.kind ≠ 4) (h5 : k.kind ≠ 5) (h9 : k.kind ≠ 9) : stepChunk a b k = (a, 3) := by
  rw [scR h0 h1 h2 h3 h6 h7 h8 h14]
  unfold stepRest
  rw [if_neg h10, if_neg h11, if_neg (by omega)]
end
set_option maxHeartbeats 8000000 in
theorem s_handle (a : Assoc) (k : Chunk) (byB : Bool) (hs : k.body.length ≤ 1000000) (hv : assocB a = true) : Spec Try.prog 67 3 (H3 a) [.ptr 0 0 0, k.av, .bo byB] (AfterW (stepChunk a byB k)) := by
  obtain ⟨_, _, _, hst, _⟩ := assocB_iff.1 hv
  have hgr := fun h => AfterW.canon (s_greet a k byB hs hv h)
  have hta := AfterW.canon (s_take a k byB hs hv)
  have hac := AfterW.canon (s_ack a k byB hs hv)
  unfold Chunk.av at hgr hta hac ⊢
  have main : ∀ q, (byB == a.byB) = q → Spec Try.prog 67 3 (H3 a) [.ptr 0 0 0, .agg [.i k.kind, .i k.flags, .st k.body], .bo byB] (AfterW (stepChunk a byB k)) := by
    intro q hq
    have hu : H3 a = [(0, .var [.i a.fr, .i a.to, .i a.state, .bo a.byB, .i a.a.tag, .i a.a.streams, .i a.a.first, .sl 1 0 a.a.sent.length, .i a.a.acked, .i a.b.tag, .i a.b.streams, .i a.b.first, .sl 2 0 a.b.sent.length, .i a.b.acked]), (1, .row 7 (a.a.sent.map Data.row)), (2, .row 7 (a.b.sent.map Data.row))] := rfl
    cases byB <;> cases q
    · refine mr67 rfl fun c hP hm => ?_
      unfold pc67
      rw [hu]
      refine run_seq (run_wpc _ _ _ _ _ ?_)
      simp only [hm, go_sem, ↓reduceIte]
      refine run_seq (run_wpc _ _ _ _ _ ?_)
      simp only [hm, go_sem, ↓reduceIte]
      refine run_seq (run_wpc _ _ _ _ _ ?_)
      simp only [hm, go_sem, ↓reduceIte]
      refine run_seq (run_wpc _ _ _ _ _ ?_)
      simp only [hq, hm, go_sem, ↓reduceIte]
      refine run_seq (run_seq (run_wpc _ _ _ _ _ ?_))
      simp only [hm, go_sem, ↓reduceIte]
      refine run_wpc _ _ _ _ _ ?_
      simp only [hm, go_sem, ↓reduceIte]
      repeat' first | refine And.intro ?_ ?_ | intro _
      all_goals try (refine run_wpc _ _ _ _ _ ?_; simp only [hm, go_sem, ↓reduceIte])
      all_goals
        first
        | omega
        | (rw [scN (by omega) (by omega) (by omega) (by omega) (by omega) (by omega) (by omega) (by omega) (by omega) (by omega) (by omega) (by omega) (by omega)]; exact ⟨rfl, 1, 2, .inl ⟨rfl, rfl⟩, rfl, rfl, rfl⟩)
        | (refine call_three 0 1 2 (hP ▸ hgr (by omega)) ⟨by decide, by decide, by decide⟩ rfl rfl rfl rfl ?_ ?_ ?_
           all_goals
             simp only [hm, go_sem, ↓reduceIte]
             rw [sc12 (by omega)]
             first | exact ⟨rfl, 1, 2, .inl ⟨rfl, rfl⟩, rfl, rfl, rfl⟩ | exact ⟨rfl, 4, 2, .inr (.inl ⟨by omega, rfl⟩), rfl, rfl, rfl⟩ | exact ⟨rfl, 1, 4, .inr (.inr ⟨rfl, by omega⟩), rfl, rfl, rfl⟩)
        | (refine call_three 0 1 2 (hP ▸ hta) ⟨by decide, by decide, by decide⟩ rfl rfl rfl rfl ?_ ?_ ?_
           all_goals
             simp only [hm, go_sem, ↓reduceIte]
             rw [sc0 (by assumption) (by first | exact .inl (by assumption) | exact .inr (.inl ⟨by assumption, rfl⟩) | exact .inr (.inr ⟨by assumption, by simpa using hq⟩))]
             first | exact ⟨rfl, 1, 2, .inl ⟨rfl, rfl⟩, rfl, rfl, rfl⟩ | exact ⟨rfl, 4, 2, .inr (.inl ⟨by omega, rfl⟩), rfl, rfl, rfl⟩ | exact ⟨rfl, 1, 4, .inr (.inr ⟨rfl, by omega⟩), rfl, rfl, rfl⟩)
        | (refine call_three 0 1 2 (hP ▸ hac) ⟨by decide, by decide, by decide⟩ rfl rfl rfl rfl ?_ ?_ ?_
           all_goals
             simp only [hm, go_sem, ↓reduceIte]
             rw [sc3 (by assumption) (by omega)]
             first | exact ⟨rfl, 1, 2, .inl ⟨rfl, rfl⟩, rfl, rfl, rfl⟩ | exact ⟨rfl, 4, 2, .inr (.inl ⟨by omega, rfl⟩), rfl, rfl, rfl⟩ | exact ⟨rfl, 1, 4, .inr (.inr ⟨rfl, by omega⟩), rfl, rfl, rfl⟩)
        | (rw [sc0n (by assumption) (by assumption) (fun h => by first | rfl | omega) (fun h => by first | exact hq | omega)]; exact ⟨rfl, 1, 2, .inl ⟨rfl, rfl⟩, rfl, rfl, rfl⟩)
        | (rw [sc3n (by assumption) (by omega)]; exact ⟨rfl, 1, 2, .inl ⟨rfl, rfl⟩, rfl, rfl, rfl⟩)
        | (rw [sc6 (by assumption)]; repeat' split
           all_goals first | exact ⟨rfl, 1, 2, .inl ⟨rfl, rfl⟩, rfl, rfl, rfl⟩ | omega)
        | (rw [sc7f (by assumption) hq (o := a.a) rfl]; repeat' split
           all_goals first | exact ⟨rfl, 1, 2, .inl ⟨rfl, rfl⟩, rfl, rfl, rfl⟩ | omega)
        | (rw [sc8f (by assumption) hq (o := a.a) rfl]; repeat' split
           all_goals first | exact ⟨rfl, 1, 2, .inl ⟨rfl, rfl⟩, rfl, rfl, rfl⟩ | omega)
        | (rw [sc14f (by assumption) hq]; exact ⟨rfl, 1, 2, .inl ⟨rfl, rfl⟩, rfl, rfl, rfl⟩)
        | (rw [sc10a (by assumption) rfl]; repeat' split
           all_goals first | exact ⟨rfl, 1, 2, .inl ⟨rfl, rfl⟩, rfl, rfl, rfl⟩ | omega)
        | (rw [sc11b (by assumption) rfl]; exact ⟨rfl, 1, 2, .inl ⟨rfl, rfl⟩, rfl, rfl, rfl⟩)
        | (rw [sc459 (by omega)]; repeat' split
           all_goals first | exact ⟨rfl, 1, 2, .inl ⟨rfl, rfl⟩, rfl, rfl, rfl⟩ | omega)
    · refine mr67 rfl fun c hP hm => ?_
      unfold pc67
      rw [hu]
      refine run_seq (run_wpc _ _ _ _ _ ?_)
      simp only [hm, go_sem, ↓reduceIte]
      refine run_seq (run_wpc _ _ _ _ _ ?_)
      simp only [hm, go_sem, ↓reduceIte]
      refine run_seq (run_wpc _ _ _ _ _ ?_)
      simp only [hm, go_sem, ↓reduceIte]
      refine run_seq (run_wpc _ _ _ _ _ ?_)
      simp only [hq, hm, go_sem, ↓reduceIte]
      refine run_seq (run_seq (run_wpc _ _ _ _ _ ?_))
      simp only [hm, go_sem, ↓reduceIte]
      refine run_wpc _ _ _ _ _ ?_
      simp only [hm, go_sem, ↓reduceIte]
      repeat' first | refine And.intro ?_ ?_ | intro _
      all_goals try (refine run_wpc _ _ _ _ _ ?_; simp only [hm, go_sem, ↓reduceIte])
      all_goals
        first
        | omega
        | (rw [scN (by omega) (by omega) (by omega) (by omega) (by omega) (by omega) (by omega) (by omega) (by omega) (by omega) (by omega) (by omega) (by omega)]; exact ⟨rfl, 1, 2, .inl ⟨rfl, rfl⟩, rfl, rfl, rfl⟩)
        | (refine call_three 0 1 2 (hP ▸ hgr (by omega)) ⟨by decide, by decide, by decide⟩ rfl rfl rfl rfl ?_ ?_ ?_
           all_goals
             simp only [hm, go_sem, ↓reduceIte]
             rw [sc12 (by omega)]
             first | exact ⟨rfl, 1, 2, .inl ⟨rfl, rfl⟩, rfl, rfl, rfl⟩ | exact ⟨rfl, 4, 2, .inr (.inl ⟨by omega, rfl⟩), rfl, rfl, rfl⟩ | exact ⟨rfl, 1, 4, .inr (.inr ⟨rfl, by omega⟩), rfl, rfl, rfl⟩)
        | (refine call_three 0 1 2 (hP ▸ hta) ⟨by decide, by decide, by decide⟩ rfl rfl rfl rfl ?_ ?_ ?_
           all_goals
             simp only [hm, go_sem, ↓reduceIte]
             rw [sc0 (by assumption) (by first | omega | exact .inl (by assumption) | exact .inr (.inl ⟨by assumption, rfl⟩))]
             first | exact ⟨rfl, 1, 2, .inl ⟨rfl, rfl⟩, rfl, rfl, rfl⟩ | exact ⟨rfl, 4, 2, .inr (.inl ⟨by omega, rfl⟩), rfl, rfl, rfl⟩ | exact ⟨rfl, 1, 4, .inr (.inr ⟨rfl, by omega⟩), rfl, rfl, rfl⟩)
        | (refine call_three 0 1 2 (hP ▸ hac) ⟨by decide, by decide, by decide⟩ rfl rfl rfl rfl ?_ ?_ ?_
           all_goals
             simp only [hm, go_sem, ↓reduceIte]
             rw [sc3 (by assumption) (by omega)]
             first | exact ⟨rfl, 1, 2, .inl ⟨rfl, rfl⟩, rfl, rfl, rfl⟩ | exact ⟨rfl, 4, 2, .inr (.inl ⟨by omega, rfl⟩), rfl, rfl, rfl⟩ | exact ⟨rfl, 1, 4, .inr (.inr ⟨rfl, by omega⟩), rfl, rfl, rfl⟩)
        | (rw [sc0n (by assumption) (by assumption) (fun h => by first | rfl | omega) (fun h => by first | exact hq | omega)]; exact ⟨rfl, 1, 2, .inl ⟨rfl, rfl⟩, rfl, rfl, rfl⟩)
        | (rw [sc3n (by assumption) (by omega)]; exact ⟨rfl, 1, 2, .inl ⟨rfl, rfl⟩, rfl, rfl, rfl⟩)
        | (rw [sc6 (by assumption)]; repeat' split
           all_goals first | exact ⟨rfl, 1, 2, .inl ⟨rfl, rfl⟩, rfl, rfl, rfl⟩ | omega)
        | (rw [sc7t (by assumption) hq (o := a.a) rfl]; repeat' split
           all_goals first | exact ⟨rfl, 1, 2, .inl ⟨rfl, rfl⟩, rfl, rfl, rfl⟩ | omega)
        | (rw [sc8t (by assumption) hq]; exact ⟨rfl, 1, 2, .inl ⟨rfl, rfl⟩, rfl, rfl, rfl⟩)
        | (rw [sc14t (by assumption) hq]; repeat' split
           all_goals first | exact ⟨rfl, 1, 2, .inl ⟨rfl, rfl⟩, rfl, rfl, rfl⟩ | omega)
        | (rw [sc10a (by assumption) rfl]; repeat' split
           all_goals first | exact ⟨rfl, 1, 2, .inl ⟨rfl, rfl⟩, rfl, rfl, rfl⟩ | omega)
        | (rw [sc11b (by assumption) rfl]; exact ⟨rfl, 1, 2, .inl ⟨rfl, rfl⟩, rfl, rfl, rfl⟩)
        | (rw [sc459 (by omega)]; repeat' split
           all_goals first | exact ⟨rfl, 1, 2, .inl ⟨rfl, rfl⟩, rfl, rfl, rfl⟩ | omega)
    · refine mr67 rfl fun c hP hm => ?_
      unfold pc67
      rw [hu]
      refine run_seq (run_wpc _ _ _ _ _ ?_)
      simp only [hm, go_sem, ↓reduceIte]
      refine run_seq (run_wpc _ _ _ _ _ ?_)
      simp only [hm, go_sem, ↓reduceIte]
      refine run_seq (run_wpc _ _ _ _ _ ?_)
      simp only [hm, go_sem, ↓reduceIte]
      refine run_seq (run_wpc _ _ _ _ _ ?_)
      simp only [hq, hm, go_sem, ↓reduceIte]
      refine run_seq (run_seq (run_wpc _ _ _ _ _ ?_))
      simp only [hm, go_sem, ↓reduceIte]
      refine run_wpc _ _ _ _ _ ?_
      simp only [hm, go_sem, ↓reduceIte]
      repeat' first | refine And.intro ?_ ?_ | intro _
      all_goals try (refine run_wpc _ _ _ _ _ ?_; simp only [hm, go_sem, ↓reduceIte])
      all_goals
        first
        | omega
        | (rw [scN (by omega) (by omega) (by omega) (by omega) (by omega) (by omega) (by omega) (by omega) (by omega) (by omega) (by omega) (by omega) (by omega)]; exact ⟨rfl, 1, 2, .inl ⟨rfl, rfl⟩, rfl, rfl, rfl⟩)
        | (refine call_three 0 1 2 (hP ▸ hgr (by omega)) ⟨by decide, by decide, by decide⟩ rfl rfl rfl rfl ?_ ?_ ?_
           all_goals
             simp only [hm, go_sem, ↓reduceIte]
             rw [sc12 (by omega)]
             first | exact ⟨rfl, 1, 2, .inl ⟨rfl, rfl⟩, rfl, rfl, rfl⟩ | exact ⟨rfl, 4, 2, .inr (.inl ⟨by omega, rfl⟩), rfl, rfl, rfl⟩ | exact ⟨rfl, 1, 4, .inr (.inr ⟨rfl, by omega⟩), rfl, rfl, rfl⟩)
        | (refine call_three 0 1 2 (hP ▸ hta) ⟨by decide, by decide, by decide⟩ rfl rfl rfl rfl ?_ ?_ ?_
           all_goals
             simp only [hm, go_sem, ↓reduceIte]
             rw [sc0 (by assumption) (by first | exact .inl (by assumption) | exact .inr (.inr ⟨by assumption, by simpa using hq⟩))]
             first | exact ⟨rfl, 1, 2, .inl ⟨rfl, rfl⟩, rfl, rfl, rfl⟩ | exact ⟨rfl, 4, 2, .inr (.inl ⟨by omega, rfl⟩), rfl, rfl, rfl⟩ | exact ⟨rfl, 1, 4, .inr (.inr ⟨rfl, by omega⟩), rfl, rfl, rfl⟩)
        | (refine call_three 0 1 2 (hP ▸ hac) ⟨by decide, by decide, by decide⟩ rfl rfl rfl rfl ?_ ?_ ?_
           all_goals
             simp only [hm, go_sem, ↓reduceIte]
             rw [sc3 (by assumption) (by omega)]
             first | exact ⟨rfl, 1, 2, .inl ⟨rfl, rfl⟩, rfl, rfl, rfl⟩ | exact ⟨rfl, 4, 2, .inr (.inl ⟨by omega, rfl⟩), rfl, rfl, rfl⟩ | exact ⟨rfl, 1, 4, .inr (.inr ⟨rfl, by omega⟩), rfl, rfl, rfl⟩)
        | (rw [sc0n (by assumption) (by assumption) (fun h => by first | rfl | omega) (fun h => by first | exact hq | omega)]; exact ⟨rfl, 1, 2, .inl ⟨rfl, rfl⟩, rfl, rfl, rfl⟩)
        | (rw [sc3n (by assumption) (by omega)]; exact ⟨rfl, 1, 2, .inl ⟨rfl, rfl⟩, rfl, rfl, rfl⟩)
        | (rw [sc6 (by assumption)]; repeat' split
           all_goals first | exact ⟨rfl, 1, 2, .inl ⟨rfl, rfl⟩, rfl, rfl, rfl⟩ | omega)
        | (rw [sc7f (by assumption) hq (o := a.b) rfl]; repeat' split
           all_goals first | exact ⟨rfl, 1, 2, .inl ⟨rfl, rfl⟩, rfl, rfl, rfl⟩ | omega)
        | (rw [sc8f (by assumption) hq (o := a.b) rfl]; repeat' split
           all_goals first | exact ⟨rfl, 1, 2, .inl ⟨rfl, rfl⟩, rfl, rfl, rfl⟩ | omega)
        | (rw [sc14f (by assumption) hq]; exact ⟨rfl, 1, 2, .inl ⟨rfl, rfl⟩, rfl, rfl, rfl⟩)
        | (rw [sc10b (by assumption) rfl]; exact ⟨rfl, 1, 2, .inl ⟨rfl, rfl⟩, rfl, rfl, rfl⟩)
        | (rw [sc11a (by assumption) rfl]; repeat' split
           all_goals first | exact ⟨rfl, 1, 2, .inl ⟨rfl, rfl⟩, rfl, rfl, rfl⟩ | omega)
        | (rw [sc459 (by omega)]; repeat' split
           all_goals first | exact ⟨rfl, 1, 2, .inl ⟨rfl, rfl⟩, rfl, rfl, rfl⟩ | omega)
    · refine mr67 rfl fun c hP hm => ?_
      unfold pc67
      rw [hu]
      refine run_seq (run_wpc _ _ _ _ _ ?_)
      simp only [hm, go_sem, ↓reduceIte]
      refine run_seq (run_wpc _ _ _ _ _ ?_)
      simp only [hm, go_sem, ↓reduceIte]
      refine run_seq (run_wpc _ _ _ _ _ ?_)
      simp only [hm, go_sem, ↓reduceIte]
      refine run_seq (run_wpc _ _ _ _ _ ?_)
      simp only [hq, hm, go_sem, ↓reduceIte]
      refine run_seq (run_seq (run_wpc _ _ _ _ _ ?_))
      simp only [hm, go_sem, ↓reduceIte]
      refine run_wpc _ _ _ _ _ ?_
      simp only [hm, go_sem, ↓reduceIte]
      repeat' first | refine And.intro ?_ ?_ | intro _
      all_goals try (refine run_wpc _ _ _ _ _ ?_; simp only [hm, go_sem, ↓reduceIte])
      all_goals
        first
        | omega
        | (rw [scN (by omega) (by omega) (by omega) (by omega) (by omega) (by omega) (by omega) (by omega) (by omega) (by omega) (by omega) (by omega) (by omega)]; exact ⟨rfl, 1, 2, .inl ⟨rfl, rfl⟩, rfl, rfl, rfl⟩)
        | (refine call_three 0 1 2 (hP ▸ hgr (by omega)) ⟨by decide, by decide, by decide⟩ rfl rfl rfl rfl ?_ ?_ ?_
           all_goals
             simp only [hm, go_sem, ↓reduceIte]
             rw [sc12 (by omega)]
             first | exact ⟨rfl, 1, 2, .inl ⟨rfl, rfl⟩, rfl, rfl, rfl⟩ | exact ⟨rfl, 4, 2, .inr (.inl ⟨by omega, rfl⟩), rfl, rfl, rfl⟩ | exact ⟨rfl, 1, 4, .inr (.inr ⟨rfl, by omega⟩), rfl, rfl, rfl⟩)
        | (refine call_three 0 1 2 (hP ▸ hta) ⟨by decide, by decide, by decide⟩ rfl rfl rfl rfl ?_ ?_ ?_
           all_goals
             simp only [hm, go_sem, ↓reduceIte]
             rw [sc0 (by assumption) (.inl (by assumption))]
             first | exact ⟨rfl, 1, 2, .inl ⟨rfl, rfl⟩, rfl, rfl, rfl⟩ | exact ⟨rfl, 4, 2, .inr (.inl ⟨by omega, rfl⟩), rfl, rfl, rfl⟩ | exact ⟨rfl, 1, 4, .inr (.inr ⟨rfl, by omega⟩), rfl, rfl, rfl⟩)
        | (refine call_three 0 1 2 (hP ▸ hac) ⟨by decide, by decide, by decide⟩ rfl rfl rfl rfl ?_ ?_ ?_
           all_goals
             simp only [hm, go_sem, ↓reduceIte]
             rw [sc3 (by assumption) (by omega)]
             first | exact ⟨rfl, 1, 2, .inl ⟨rfl, rfl⟩, rfl, rfl, rfl⟩ | exact ⟨rfl, 4, 2, .inr (.inl ⟨by omega, rfl⟩), rfl, rfl, rfl⟩ | exact ⟨rfl, 1, 4, .inr (.inr ⟨rfl, by omega⟩), rfl, rfl, rfl⟩)
        | (rw [sc0n (by assumption) (by assumption) (fun h => by first | rfl | omega) (fun h => by first | exact hq | omega)]; exact ⟨rfl, 1, 2, .inl ⟨rfl, rfl⟩, rfl, rfl, rfl⟩)
        | (rw [sc3n (by assumption) (by omega)]; exact ⟨rfl, 1, 2, .inl ⟨rfl, rfl⟩, rfl, rfl, rfl⟩)
        | (rw [sc6 (by assumption)]; repeat' split
           all_goals first | exact ⟨rfl, 1, 2, .inl ⟨rfl, rfl⟩, rfl, rfl, rfl⟩ | omega)
        | (rw [sc7t (by assumption) hq (o := a.b) rfl]; repeat' split
           all_goals first | exact ⟨rfl, 1, 2, .inl ⟨rfl, rfl⟩, rfl, rfl, rfl⟩ | omega)
        | (rw [sc8t (by assumption) hq]; exact ⟨rfl, 1, 2, .inl ⟨rfl, rfl⟩, rfl, rfl, rfl⟩)
        | (rw [sc14t (by assumption) hq]; repeat' split
           all_goals first | exact ⟨rfl, 1, 2, .inl ⟨rfl, rfl⟩, rfl, rfl, rfl⟩ | omega)
        | (rw [sc10b (by assumption) rfl]; exact ⟨rfl, 1, 2, .inl ⟨rfl, rfl⟩, rfl, rfl, rfl⟩)
        | (rw [sc11a (by assumption) rfl]; repeat' split
           all_goals first | exact ⟨rfl, 1, 2, .inl ⟨rfl, rfl⟩, rfl, rfl, rfl⟩ | omega)
        | (rw [sc459 (by omega)]; repeat' split
           all_goals first | exact ⟨rfl, 1, 2, .inl ⟨rfl, rfl⟩, rfl, rfl, rfl⟩ | omega)
  exact main _ rfl
end Go.Cap

/- Contracts: the program copies associations, and tells which packets are alone. -/
namespace Go.Cap
open Go Go.Proofs
set_option maxRecDepth 100000
set_option linter.unusedSimpArgs false
set_option linter.unusedVariables false
attribute [local irreducible] Call Run Spec Le

theorem s_copyAssoc (a : Assoc) (h1 : a.a.sent.length ≤ 1000000) (h2 : a.b.sent.length ≤ 1000000) : Spec Try.prog 66 0 [] [a.ro] (New2 (.agg (a.cells3 0 1)) 7 (a.a.sent.map Data.row) 7 (a.b.sent.map Data.row)) := by
  refine Spec.new2 (Q := fun r hp _ _ => ∃ b b1, b ≠ b1 ∧ r = .agg (a.cells3 b b1) ∧ hget hp b = some (.row 7 (a.a.sent.map Data.row)) ∧ hget hp b1 = some (.row 7 (a.b.sent.map Data.row))) ?_ (fun r hp nx gs h => h) (fun f g h1 h2 => by unfold Assoc.cells3; simp only [go_sem, h1, h2])
  refine mk66 rfl fun c hP hm => ?_
  unfold pc66 Assoc.ro Assoc.av
  simp only [hm, go_sem, ↓reduceIte]
  repeat' first | refine And.intro ?_ ?_ | intro _
  all_goals first
    | omega
    | (simp only [List.length_map, List.length_append, List.length_nil]; omega)
    | (rename_i hr; obtain ⟨d, _, rfl⟩ := List.mem_map.1 hr; rfl)
    | exact ⟨2, 3, by omega, rfl, rfl, rfl⟩
theorem s_implPacketAlone (p : Packet) (hp : packB p = true) : Spec Try.prog 65 0 [] [p.ro] (fun r _ _ _ => r = .bo (aloneB p)) := by
  have hpb := hp
  simp only [packB, Bool.and_eq_true, decide_eq_true_eq] at hpb
  have hl : p.chunks.length ≤ 4 := by omega
  have hpv := s_implPacketValid p
  have hal : aloneB p = (decide (p.chunks.length = 1) || p.chunks.all fun c => !aloneK c.kind) := by unfold aloneB; rw [hp]; rfl
  refine mr65 rfl fun c hP hm => ?_
  unfold pc65
  unfold Packet.ro at hpv ⊢
  refine run_seq (run_wpc _ _ _ _ _ ?_)
  simp only [hm, go_sem, ↓reduceIte]
  refine run_seq (run_wpc _ _ _ _ _ ?_)
  simp only [hm, go_sem, ↓reduceIte]
  refine call_pure (hP ▸ hpv) rfl rfl ?_
  rw [hp]
  simp only [hm, go_sem, ↓reduceIte]
  refine run_seq (run_wpc _ _ _ _ _ ?_)
  simp only [hm, go_sem, ↓reduceIte]
  intro _
  refine ⟨fun h1 => by rw [hal, decide_eq_true (by omega)]; rfl, fun h1 => ?_⟩
  have h1' : p.chunks.length ≠ 1 := by omega
  rw [decide_eq_false h1', Bool.false_or] at hal
  refine run_seq (run_wpc _ _ _ _ _ ?_)
  simp only [hm, go_sem, ↓reduceIte]
  intro _
  refine run_exit 0 (fun t0 => t0 = ⟨[], [], 1, []⟩ ∧ aloneB p = true) ?_ ?_
  · refine lp_wpc (α := Nat) (fun i => ⟨[(13, .r (.ro none (p.chunks.map Chunk.row))), (14, .i p.chunks.length), (15, .i i)], [], 1, []⟩)
      (fun i => i ≤ p.chunks.length ∧ ∀ c ∈ p.chunks.take i, aloneK c.kind = false) (fun i => p.chunks.length - i) 0 ⟨Nat.zero_le _, fun c hc => by simp at hc⟩ (by (refine le_ev [] ?_; simp only [hm, go_sem, ↓reduceIte]; first | done | rfl | exact ⟨rfl, rfl⟩)) ?_
    rintro i ⟨hi, hI⟩
    unfold pc65l0
    rcases Nat.lt_or_ge i p.chunks.length with hil | hil
    · have hw : IntKind.i64.wrap ((i : Int) + 1) = ((i + 1 : Nat) : Int) := by rw [wrap64 (by omega) (by omega)]; omega
      have hg := getD_map (f := Chunk.row) hil
      have htk := take_get hil
      have hmem := List.getElem_mem hil
      generalize p.chunks[i] = x at hg htk hmem
      have hbad : aloneK x.kind = true → AV.r (RV.b false) = AV.bo (aloneB p) := fun h1 => by
        apply bo_inj; symm; rw [hal, Bool.eq_false_iff]; intro hh
        have := List.all_eq_true.1 hh x hmem
        rw [h1] at this; cases this
      have hstep : aloneK x.kind = false → ∀ c ∈ p.chunks.take (i + 1), aloneK c.kind = false := fun h c hc => by
        rw [htk] at hc
        rcases List.mem_append.1 hc with hc | hc
        · exact hI c hc
        · simp only [List.mem_singleton] at hc; subst hc; exact h
      simp only [hw, Int.toNat_natCast, hg, Chunk.row, hm, go_sem, ↓reduceIte]
      repeat' first | refine And.intro ?_ ?_ | intro _
      all_goals first
        | omega
        | exact hbad (decide_eq_true (by omega))
        | (refine ⟨i + 1, ⟨hil, hstep (decide_eq_false (by omega))⟩, by omega, ?_⟩; (refine le_ev [] ?_; simp only [hm, go_sem, ↓reduceIte]; first | done | rfl | exact ⟨rfl, rfl⟩))
    · have : i = p.chunks.length := by omega
      subst this
      rw [List.take_length] at hI
      simp only [hm, go_sem, ↓reduceIte]
      repeat' first | refine And.intro ?_ ?_ | intro _
      all_goals first
        | omega
        | (refine ⟨_, ⟨rfl, by rw [hal]; exact List.all_eq_true.2 fun c hc => by rw [hI c hc]; rfl⟩, ?_⟩; (refine le_ev [] ?_; simp only [hm, go_sem, ↓reduceIte]; first | done | rfl | exact ⟨rfl, rfl⟩))
  rintro t0 ⟨rfl, hG⟩
  refine run_wpc _ _ _ _ _ ?_
  simp only [hm, go_sem, ↓reduceIte]
  rw [hG]
end Go.Cap

/- Contracts: the program steps an association. -/
namespace Go.Cap
open Go Go.Proofs
set_option maxRecDepth 100000
set_option linter.unusedSimpArgs false
set_option linter.unusedVariables false
attribute [local irreducible] Call Run Spec Le

theorem stepChunks_snoc (byB : Bool) (c : Chunk) : ∀ (l : List Chunk) (a : Assoc) (rs : List Int), stepChunks byB (l ++ [c]) a rs = ((stepChunk (stepChunks byB l a rs).1 byB c).1, (stepChunks byB l a rs).2 ++ [(stepChunk (stepChunks byB l a rs).1 byB c).2])
  | [], a, rs => rfl
  | x :: l, a, rs => by rw [List.cons_append]; simp only [stepChunks]; exact stepChunks_snoc byB c l _ _
def bCells (a : Assoc) (byB : Bool) (p : Packet) (rs : List Int) : List AV := (List.range 12).map fun k => .bo (decide (1 ≤ k) && brokenB a byB p rs k)
theorem bCells_len (a : Assoc) (byB : Bool) (p : Packet) (rs : List Int) : (bCells a byB p rs).length = 12 := by simp [bCells]
theorem bCells_nil (a : Assoc) (byB : Bool) (p : Packet) : bCells a byB p [] = [.bo false, .bo (!aloneB p), .bo (decide (p.tag ≠ tagOf a byB p)), .bo false, .bo false, .bo false, .bo false, .bo false, .bo false, .bo false, .bo false, .bo false] := by
  simp [bCells, brokenB, List.range, List.range.loop]
theorem plainL_bo (f : Nat → Bool) : ∀ l : List Nat, plainA.plainL (l.map fun k => AV.bo (f k)) = true
  | [] => rfl
  | k :: l => by simp only [List.map_cons, plainA.plainL, plainL_bo f l]; rfl
@[go_sem] theorem bCells_ren (g : Nat → Nat) (a : Assoc) (byB : Bool) (p : Packet) (rs : List Int) : renA.renL g (bCells a byB p rs) = bCells a byB p rs := renL_id (plainL_bo _ _)
theorem killL_bo (b : Nat) (f : Nat → Bool) : ∀ l : List Nat, kill.killL b (l.map fun k => AV.bo (f k)) = l.map fun k => AV.bo (f k)
  | [] => rfl
  | k :: l => by simp only [List.map_cons, kill.killL, killL_bo b f l]; rfl
theorem aget_at : ∀ (l : List AV) (i : Nat) (h : i < l.length), aget l i = l[i]
  | _ :: _, 0, _ => rfl
  | _ :: l, i + 1, h => aget_at l i (by simpa using h)
theorem contains_app {rs : List Int} {r x : Int} (h : x ≠ r) : (rs ++ [r]).contains x = rs.contains x := by
  rw [Bool.eq_iff_iff, List.contains_iff_mem, List.contains_iff_mem, List.mem_append, List.mem_singleton]
  constructor
  · rintro (h1 | h1)
    · exact h1
    · exact absurd h1 h
  · exact .inl
theorem bCells_set {a : Assoc} {byB : Bool} {p : Packet} {rs : List Int} {r : Int} (h : 1 ≤ r ∧ r ≤ 11) : (bCells a byB p rs).set r.toNat (.bo true) = bCells a byB p (rs ++ [r]) := by
  refine List.ext_getElem (by simp [bCells]) fun j h1 h2 => ?_
  rw [bCells_len] at h2
  rw [List.getElem_set]
  simp only [bCells, List.getElem_map, List.getElem_range, brokenB]
  by_cases hj : r.toNat = j
  · rw [if_pos hj]
    have : (j : Int) = r := by omega
    rw [this]
    simp [show 1 ≤ j by omega]
  · rw [if_neg hj]
    rw [contains_app (by omega)]
theorem bCells_zero {a : Assoc} {byB : Bool} {p : Packet} {rs : List Int} : bCells a byB p (rs ++ [0]) = bCells a byB p rs := by
  refine List.ext_getElem (by simp [bCells]) fun j h1 h2 => ?_
  simp only [bCells, List.getElem_map, List.getElem_range, brokenB]
  by_cases hj : 1 ≤ j
  · rw [contains_app (by omega)]
  · rw [decide_eq_false hj, Bool.false_and, Bool.false_and]
def brTo (b : Nat → Bool) (n : Nat) : List Int := ((List.range n).filter fun k => decide (1 ≤ k) && b k).map fun (k : Nat) => (k : Int)
theorem brTo_succ (b : Nat → Bool) (n : Nat) : brTo b (n + 1) = brTo b n ++ (if (decide (1 ≤ n) && b n) = true then [(n : Int)] else []) := by
  unfold brTo
  rw [List.range_succ, List.filter_append, List.map_append]
  congr 1
  by_cases h : (decide (1 ≤ n) && b n) = true
  · rw [if_pos h]; simp [h]
  · rw [if_neg h]; simp only [Bool.not_eq_true] at h; simp [h]
theorem brTo_end (b : Nat → Bool) : brTo b 12 = rulesOf b := rfl
def tagTo (a : Assoc) (byB : Bool) (l : List Chunk) : Int := if l.any (fun c => decide (c.kind = 1)) then 0 else (a.other byB).tag
theorem tagTo_snoc (a : Assoc) (byB : Bool) (l : List Chunk) (c : Chunk) : tagTo a byB (l ++ [c]) = if c.kind = 1 then 0 else tagTo a byB l := by
  unfold tagTo
  by_cases h : c.kind = 1 <;> simp [h]
def zeroC : List AV := [.i 0, .i 0, .i 0, .bo false, .i 0, .i 0, .i 0, .r .nil, .i 0, .i 0, .i 0, .i 0, .r .nil, .i 0]
theorem step_no {a : Assoc} {p : Packet} (h : assocB a = true) (hp : packB p = true) (hpt : (p.fr = a.fr ∧ p.to = a.to) ∨ (p.fr = a.to ∧ p.to = a.fr)) : assocStep a p ≠ (noAssoc, []) := fun e => by
  have h2 := (assocStep_valid h hp hpt).2.1
  rw [e] at h2
  have h1 := (assocB_iff.1 h).1
  simp only [noAssoc] at h2
  omega
structure ASQ (x : Assoc × List Int) (r : AV) (hp : List (Nat × Blk)) (nx : Nat) (gs : List Nat) : Prop where
  h : (x = (noAssoc, []) ∧ r = .tup [.agg zeroC, .r .nil]) ∨
    (∃ b b1, (b ≠ b1 ∧ x ≠ (noAssoc, [])) ∧ x.2 = [] ∧ r = .tup [.agg (x.1.cells3 b b1), .r .nil] ∧ hget hp b = some (rowsD x.1.a.sent) ∧ hget hp b1 = some (rowsD x.1.b.sent)) ∨
    (∃ b b1 b2, (b ≠ b1 ∧ b ≠ b2 ∧ b1 ≠ b2) ∧ x.2 ≠ [] ∧ r = .tup [.agg (x.1.cells3 b b1), .sl b2 0 x.2.length] ∧ hget hp b = some (rowsD x.1.a.sent) ∧ hget hp b1 = some (rowsD x.1.b.sent) ∧ hget hp b2 = some (.row 1 (x.2.map intRow)))
set_option maxHeartbeats 4000000 in
theorem s_implAssocStep0 (a : Assoc) (p : Packet) (ha : SFit a.a) (hb : SFit a.b) : Spec Try.prog 25 0 [] [a.ro, p.ro] (ASQ (assocStep a p)) := by
  have hav := s_implAssocValid a ha hb
  have hpv := s_implPacketValid p
  have hu : a.ro = .agg a.cellsA := rfl
  have hz : byBOf a p = (p.fr == a.to && p.to == a.fr) := by
    unfold byBOf
    rw [beq_dec, beq_dec, ← Bool.decide_and]
  have hbad : (assocB a = false ∨ packB p = false ∨ (byBOf a p = false ∧ ¬ (p.fr = a.fr ∧ p.to = a.to))) → assocStep a p = (noAssoc, []) := fun h => by
    unfold assocStep
    rw [if_pos]
    rcases h with h | h | ⟨h1, h2⟩
    · rw [h]; rfl
    · rw [h]; simp
    · rw [h1]
      have : decide (p.fr ≠ a.fr ∨ p.to ≠ a.to) = true := by
        simp only [decide_eq_true_eq]
        by_cases e : p.fr = a.fr
        · exact .inr fun e2 => h2 ⟨e, e2⟩
        · exact .inl e
      rw [this]; simp
  have hgood : assocB a = true → packB p = true → (byBOf a p = true ∨ (p.fr = a.fr ∧ p.to = a.to)) → assocStep a p = (if (rulesOf (brokenB a (byBOf a p) p (stepChunks (byBOf a p) p.chunks a []).2)).isEmpty then (stepChunks (byBOf a p) p.chunks a []).1 else a, rulesOf (brokenB a (byBOf a p) p (stepChunks (byBOf a p) p.chunks a []).2)) := fun h1 h2 h3 => by
    unfold assocStep
    rw [if_neg]
    rw [h1, h2]
    rcases h3 with h | ⟨e1, e2⟩
    · rw [h]; simp
    · simp [e1, e2]
  refine mr25 rfl fun c hP hm => ?_
  unfold pc25
  unfold Packet.ro at hpv ⊢
  rw [hu] at hav ⊢
  unfold Assoc.cellsA at hav ⊢
  refine run_seq (run_wpc _ _ _ _ _ ?_)
  simp only [hm, go_sem, ↓reduceIte]
  refine run_seq (run_wpc _ _ _ _ _ ?_)
  simp only [hm, go_sem, ↓reduceIte]
  refine call_pure (hP ▸ hav) rfl rfl ?_
  cases h1 : assocB a
  · simp only [hm, go_sem, ↓reduceIte]
    rw [hbad (.inl h1)]
    exact ⟨.inl ⟨rfl, rfl⟩⟩
  simp only [hm, go_sem, ↓reduceIte]
  refine call_pure (hP ▸ hpv) rfl rfl ?_
  cases h2 : packB p
  · simp only [hm, go_sem, ↓reduceIte]
    rw [hbad (.inr (.inl h2))]
    exact ⟨.inl ⟨rfl, rfl⟩⟩
  simp only [hm, go_sem, ↓reduceIte]
  refine run_join (fun t => t = ⟨[(2, .ptr 0 0 0), (3, .ptr 1 0 0), (4, .ptr 2 0 0), (6, .bo (byBOf a p))], [(2, .var zeroC), (1, .var [.i p.fr, .i p.to, .i p.tag, .r (.ro none (p.chunks.map Chunk.row))]), (0, .var a.cellsA)], 3, []⟩) (run_wpc _ _ _ _ _ ?_) ?_
  · rw [hz]
    simp only [hm, go_sem, ↓reduceIte]
    repeat' first | refine And.intro ?_ ?_ | intro _
    all_goals first
      | (refine ⟨_, rfl, ?_⟩; unfold zeroC; simp only [*, beq_self_eq_true, Bool.true_and, Bool.false_and]; (refine le_ev [] ?_; simp only [hm, go_sem, ↓reduceIte]; first | done | rfl | exact ⟨rfl, rfl⟩))
      | (refine ⟨_, rfl, ?_⟩; unfold zeroC; rw [beq_dec p.fr, decide_eq_false (by assumption), Bool.false_and]; (refine le_ev [] ?_; simp only [hm, go_sem, ↓reduceIte]; first | done | rfl | exact ⟨rfl, rfl⟩))
  rintro t rfl
  have hno0 : assocB a = true → packB p = true → (byBOf a p = true ∨ (p.fr = a.fr ∧ p.to = a.to)) → assocStep a p ≠ (noAssoc, []) := fun h1 h2 h3 => step_no h1 h2 (by
    rcases h3 with h | h
    · right
      unfold byBOf at h
      simpa using h
    · exact .inl h)
  generalize hbb : byBOf a p = byB at *
  clear hz
  refine run_join (fun t => t = ⟨[(2, .ptr 0 0 0), (3, .ptr 1 0 0), (4, .ptr 2 0 0), (6, .bo byB)], [(2, .var zeroC), (1, .var [.i p.fr, .i p.to, .i p.tag, .r (.ro none (p.chunks.map Chunk.row))]), (0, .var a.cellsA)], 3, []⟩ ∧ (byB = true ∨ (p.fr = a.fr ∧ p.to = a.to))) (run_wpc _ _ _ _ _ ?_) ?_
  · unfold Assoc.cellsA zeroC
    simp only [hm, go_sem, ↓reduceIte]
    repeat' first | refine And.intro ?_ ?_ | intro _
    all_goals first
      | (refine ⟨_, ⟨rfl, .inl (by assumption)⟩, ?_⟩; (refine le_ev [] ?_; simp only [hm, go_sem, ↓reduceIte]; first | done | rfl | exact ⟨rfl, rfl⟩))
      | (refine ⟨_, ⟨rfl, .inr ⟨by assumption, by assumption⟩⟩, ?_⟩; (refine le_ev [] ?_; simp only [hm, go_sem, ↓reduceIte]; first | done | rfl | exact ⟨rfl, rfl⟩))
      | (rw [hbad (.inr (.inr ⟨by assumption, fun h => by omega⟩))]; exact ⟨.inl ⟨rfl, rfl⟩⟩)
  rintro t ⟨rfl, hkey⟩
  have hno := hno0 h1 h2 hkey
  rw [hgood h1 h2 hkey] at hno ⊢
  clear hgood hbad hno0
  have hAW := assocB_AW h1
  have hpb := h2
  simp only [packB, Bool.and_eq_true, decide_eq_true_eq, List.all_eq_true, chunkB] at hpb
  have hcl : p.chunks.length ≤ 4 := by omega
  have hbody : ∀ x ∈ p.chunks, x.body.length ≤ 60 := fun x hx => (hpb.2 x hx).2
  have hal := s_implPacketAlone p h2
  unfold Packet.ro at hal
  unfold Assoc.cellsA zeroC
  refine run_seq (run_wpc _ _ _ _ _ ?_)
  simp only [hm, go_sem, ↓reduceIte]
  refine run_seq (run_wpc _ _ _ _ _ ?_)
  simp only [hm, go_sem, ↓reduceIte]
  refine call_pure (hP ▸ hal) rfl rfl ?_
  simp only [hm, go_sem, ↓reduceIte]
  refine run_seq (run_wpc _ _ _ _ _ ?_)
  simp only [hm, go_sem, ↓reduceIte]
  have hu0 : [AV.i a.fr, .i a.to, .i a.state, .bo a.byB, .i a.a.tag, .i a.a.streams, .i a.a.first, .r (.ro none (a.a.sent.map Data.row)), .i a.a.acked, .i a.b.tag, .i a.b.streams, .i a.b.first, .r (.ro none (a.b.sent.map Data.row)), .i a.b.acked] = a.cellsA := rfl
  refine run_join (fun t => t = ⟨[(2, .ptr 0 0 0), (3, .ptr 1 0 0), (4, .ptr 2 0 0), (6, .bo byB), (7, .ptr 3 0 0), (8, .i (a.other byB).tag)], [(3, .var [.bo false, .bo (!aloneB p), .bo false, .bo false, .bo false, .bo false, .bo false, .bo false, .bo false, .bo false, .bo false, .bo false]), (2, .var zeroC), (1, .var [.i p.fr, .i p.to, .i p.tag, .r (.ro none (p.chunks.map Chunk.row))]), (0, .var a.cellsA)], 4, []⟩) (run_wpc _ _ _ _ _ ?_) ?_
  · cases byB
    all_goals
      simp only [hm, go_sem, ↓reduceIte]
      repeat' first | refine And.intro ?_ ?_ | intro _
    all_goals first
      | (refine ⟨_, rfl, ?_⟩; unfold Assoc.cellsA zeroC Assoc.other; (refine le_ev [] ?_; simp only [hm, go_sem, ↓reduceIte]; first | done | rfl | exact ⟨rfl, rfl⟩))
  rintro t rfl
  refine run_seq (run_wpc _ _ _ _ _ ?_)
  simp only [hm, go_sem, ↓reduceIte]
  intro _
  refine run_exit 0 (fun t0 => t0 = ⟨[(2, .ptr 0 0 0), (3, .ptr 1 0 0), (4, .ptr 2 0 0), (6, .bo byB), (7, .ptr 3 0 0), (8, .i (tagTo a byB p.chunks))], [(3, .var [.bo false, .bo (!aloneB p), .bo false, .bo false, .bo false, .bo false, .bo false, .bo false, .bo false, .bo false, .bo false, .bo false]), (2, .var zeroC), (1, .var [.i p.fr, .i p.to, .i p.tag, .r (.ro none (p.chunks.map Chunk.row))]), (0, .var a.cellsA)], 4, []⟩) ?_ ?_
  · refine lp_wpc (α := Nat) (fun i => ⟨[(2, .ptr 0 0 0), (3, .ptr 1 0 0), (4, .ptr 2 0 0), (6, .bo byB), (7, .ptr 3 0 0), (8, .i (tagTo a byB (p.chunks.take i))), (69, .r (.ro none (p.chunks.map Chunk.row))), (70, .i p.chunks.length), (71, .i i)], [(3, .var [.bo false, .bo (!aloneB p), .bo false, .bo false, .bo false, .bo false, .bo false, .bo false, .bo false, .bo false, .bo false, .bo false]), (2, .var zeroC), (1, .var [.i p.fr, .i p.to, .i p.tag, .r (.ro none (p.chunks.map Chunk.row))]), (0, .var a.cellsA)], 4, []⟩)
      (fun i => i ≤ p.chunks.length) (fun i => p.chunks.length - i) 0 (Nat.zero_le _) (by rw [show tagTo a byB (p.chunks.take 0) = (a.other byB).tag from rfl]; unfold zeroC Assoc.cellsA; (refine le_ev [] ?_; simp only [hm, go_sem, ↓reduceIte]; first | done | rfl | exact ⟨rfl, rfl⟩)) ?_
    intro i hi
    unfold pc25l0
    rcases Nat.lt_or_ge i p.chunks.length with hil | hil
    · have hw : IntKind.i64.wrap ((i : Int) + 1) = ((i + 1 : Nat) : Int) := by rw [wrap64 (by omega) (by omega)]; omega
      have hg := getD_map (f := Chunk.row) hil
      have htk := take_get hil
      have hsn := tagTo_snoc a byB (p.chunks.take i) p.chunks[i]
      rw [← htk] at hsn
      generalize p.chunks[i] = x at hg hsn
      simp only [hw, Int.toNat_natCast, hg, Chunk.row, hm, go_sem, ↓reduceIte]
      repeat' first | refine And.intro ?_ ?_ | intro _
      all_goals first
        | omega
        | (refine ⟨i + 1, hil, by omega, ?_⟩; rw [hsn, if_pos (by assumption)]; (refine le_ev [] ?_; simp only [hm, go_sem, ↓reduceIte]; first | done | rfl | exact ⟨rfl, rfl⟩))
        | (refine ⟨i + 1, hil, by omega, ?_⟩; rw [hsn, if_neg (by assumption)]; (refine le_ev [] ?_; simp only [hm, go_sem, ↓reduceIte]; first | done | rfl | exact ⟨rfl, rfl⟩))
    · have : i = p.chunks.length := by omega
      subst this
      rw [List.take_length]
      simp only [hm, go_sem, ↓reduceIte]
      repeat' first | refine And.intro ?_ ?_ | intro _
      all_goals first
        | omega
        | (refine ⟨_, rfl, ?_⟩; (refine le_ev [] ?_; simp only [hm, go_sem, ↓reduceIte]; first | done | rfl | exact ⟨rfl, rfl⟩))
  rintro t0 rfl
  refine run_seq (run_wpc _ _ _ _ _ ?_)
  simp only [hm, go_sem, ↓reduceIte]
  have hbc : [AV.bo false, .bo (!aloneB p), .r (.b (p.tag != tagTo a byB p.chunks)), .bo false, .bo false, .bo false, .bo false, .bo false, .bo false, .bo false, .bo false, .bo false] = bCells a byB p [] := by
    rw [bCells_nil]
    have : (p.tag != tagTo a byB p.chunks) = decide (p.tag ≠ tagOf a byB p) := by
      show (p.tag != tagOf a byB p) = _
      rw [Bool.eq_iff_iff]; simp
    rw [this]
  rw [hbc]
  have hcpy := s_copyAssoc a (by have := hAW.1.2.1; omega) (by have := hAW.2.2.1; omega)
  rw [hu] at hcpy
  unfold Assoc.cellsA Assoc.cells3 at hcpy
  refine run_seq (run_wpc _ _ _ _ _ ?_)
  unfold Assoc.cellsA
  simp only [hm, go_sem, ↓reduceIte]
  refine call_new2 (hP ▸ hcpy) rfl (dataClosed _) (dataClosed _) (vws_self _ _ rfl) ?_
  simp only [hm, go_sem, ↓reduceIte]
  refine run_seq (run_wpc _ _ _ _ _ ?_)
  simp only [hm, go_sem, ↓reduceIte]
  intro _
  have hval : ∀ i, assocB (stepChunks byB (p.chunks.take i) a []).1 = true := fun i => stepChunks_valid _ _ _ _ h1
  refine run_exit 2 (fun t0 => t0 = ⟨[(2, .ptr 0 0 0), (4, .ptr 2 0 0), (7, .ptr 3 0 0), (11, .ptr 6 0 0)], [(6, .var ((stepChunks byB p.chunks a []).1.cells3 4 5)), (4, rowsD (stepChunks byB p.chunks a []).1.a.sent), (5, rowsD (stepChunks byB p.chunks a []).1.b.sent), (3, .var (bCells a byB p (stepChunks byB p.chunks a []).2)), (2, .var zeroC), (0, .var a.cellsA)], 7, []⟩) ?_ ?_
  · refine lp_wpc (α := Nat) (fun i => ⟨[(2, .ptr 0 0 0), (4, .ptr 2 0 0), (6, .bo byB), (7, .ptr 3 0 0), (11, .ptr 6 0 0), (87, .r (.ro none (p.chunks.map Chunk.row))), (88, .i p.chunks.length), (89, .i i)], [(6, .var ((stepChunks byB (p.chunks.take i) a []).1.cells3 4 5)), (4, rowsD (stepChunks byB (p.chunks.take i) a []).1.a.sent), (5, rowsD (stepChunks byB (p.chunks.take i) a []).1.b.sent), (3, .var (bCells a byB p (stepChunks byB (p.chunks.take i) a []).2)), (2, .var zeroC), (0, .var a.cellsA)], 7, []⟩)
      (fun i => i ≤ p.chunks.length) (fun i => p.chunks.length - i) 0 (Nat.zero_le _) (by rw [show stepChunks byB (p.chunks.take 0) a [] = (a, []) from rfl]; unfold zeroC Assoc.cellsA Assoc.cells3 rowsD; (refine le_ev [] ?_; simp only [hm, go_sem, ↓reduceIte]; first | done | rfl | exact ⟨rfl, rfl⟩)) ?_
    intro i hi
    unfold pc25l1
    rcases Nat.lt_or_ge i p.chunks.length with hil | hil
    · have hw : IntKind.i64.wrap ((i : Int) + 1) = ((i + 1 : Nat) : Int) := by rw [wrap64 (by omega) (by omega)]; omega
      have hg := getD_map (f := Chunk.row) hil
      have htk := take_get hil
      have hsn := stepChunks_snoc byB p.chunks[i] (p.chunks.take i) a []
      rw [← htk] at hsn
      have hbo := hbody _ (List.getElem_mem hil)
      generalize p.chunks[i] = k at hg hsn hbo
      have hv := hval i
      generalize stepChunks byB (p.chunks.take i) a [] = x at hsn hv ⊢
      have hh := AfterW.canon (s_handle x.1 k byB (by omega) hv)
      have hok := (stepChunk_ok x.1 byB k (assocB_AW hv)).2
      unfold Chunk.av at hh
      simp only [hw, Int.toNat_natCast, hg, Chunk.row, hm, go_sem, ↓reduceIte]
      generalize stepChunk x.1 byB k = y at hsn hh hok
      repeat' first | refine And.intro ?_ ?_ | intro _
      all_goals first
        | omega
        | skip
      refine call_three 6 4 5 (hP ▸ hh) ⟨by decide, by decide, by decide⟩ rfl rfl rfl rfl ?_ ?_ ?_
      all_goals
        simp only [hw, Int.toNat_natCast, bCells_len, hm, go_sem, ↓reduceIte]
        refine ⟨fun hr => ⟨⟨hok.1, by omega⟩, by omega, i + 1, hil, by omega, ?_⟩, fun hr => ⟨i + 1, hil, by omega, ?_⟩⟩
      all_goals
        rw [hsn]
        try rw [show (bCells a byB p x.2).set y.2.toNat (.r (.b true)) = bCells a byB p (x.2 ++ [y.2]) from bCells_set (by omega)]
        try rw [hr, bCells_zero]
        unfold Assoc.cells3 rowsD zeroC Assoc.cellsA
        first
        | (refine le_ev [] ?_; simp only [hm, go_sem, ↓reduceIte]; first | done | rfl | exact ⟨rfl, rfl⟩)
        | (refine le_ev [(4, 8)] ?_; simp only [hm, go_sem, ↓reduceIte]; first | done | rfl | exact ⟨rfl, rfl⟩)
        | (refine le_ev [(5, 8)] ?_; simp only [hm, go_sem, ↓reduceIte]; first | done | rfl | exact ⟨rfl, rfl⟩)
    · have : i = p.chunks.length := by omega
      subst this
      rw [List.take_length]
      simp only [hm, go_sem, ↓reduceIte]
      repeat' first | refine And.intro ?_ ?_ | intro _
      all_goals first
        | omega
        | (refine ⟨_, rfl, ?_⟩; unfold Assoc.cells3 rowsD zeroC Assoc.cellsA; (refine le_ev [] ?_; simp only [hm, go_sem, ↓reduceIte]; first | done | rfl | exact ⟨rfl, rfl⟩))
  rintro t0 rfl
  generalize hX : stepChunks byB p.chunks a [] = X
  have hXv := hval p.chunks.length
  rw [List.take_length, hX] at hXv
  rw [hX] at hno
  refine run_seq (run_wpc _ _ _ _ _ ?_)
  simp only [hm, go_sem, ↓reduceIte]
  refine run_seq (run_wpc _ _ _ _ _ ?_)
  simp only [hm, go_sem, ↓reduceIte]
  rw [List.take_of_length_le (Nat.le_of_eq (bCells_len a byB p X.2))]
  refine ⟨Nat.le_of_eq (bCells_len a byB p X.2).symm, ?_⟩
  have hcell : ∀ i, i < 12 → aget (bCells a byB p X.2) i = .bo (decide (1 ≤ i) && brokenB a byB p X.2 i) := fun i hi => by
    unfold bCells
    rw [aget_at _ _ (by simp; omega), List.getElem_map, List.getElem_range]
  have hclen := bCells_len a byB p X.2
  generalize brokenB a byB p X.2 = B at *
  generalize hCe : bCells a byB p X.2 = C at *
  have hCr : ∀ g : Nat → Nat, renA.renL g C = C := fun g => by rw [← hCe]; exact bCells_ren g a byB p X.2
  have hCk : ∀ b, kill.killL b C = C := fun b => by rw [← hCe]; exact killL_bo b _ _
  refine run_exit 4 (fun t0 => t0 = ⟨[(2, .ptr 0 0 0), (4, .ptr 2 0 0), (11, .ptr 6 0 0), (15, .sl 7 0 (rulesOf B).length)], [(7, .row 1 ((rulesOf B).map intRow)), (6, .var (X.1.cells3 4 5)), (4, rowsD X.1.a.sent), (5, rowsD X.1.b.sent), (2, .var zeroC), (0, .var a.cellsA)], 8, []⟩) ?_ ?_
  · refine lp_wpc (α := Nat) (fun i => ⟨[(2, .ptr 0 0 0), (4, .ptr 2 0 0), (11, .ptr 6 0 0), (15, .sl 7 0 (brTo B i).length), (102, .agg C), (103, .i i)], [(7, .row 1 ((brTo B i).map intRow)), (6, .var (X.1.cells3 4 5)), (4, rowsD X.1.a.sent), (5, rowsD X.1.b.sent), (2, .var zeroC), (0, .var a.cellsA)], 8, []⟩)
      (fun i => i ≤ 12 ∧ (brTo B i).length ≤ i) (fun i => 12 - i) 0 ⟨Nat.zero_le _, Nat.le_refl 0⟩ (by rw [show brTo B 0 = [] from rfl]; unfold zeroC Assoc.cellsA Assoc.cells3 rowsD; simp only [List.map_nil, List.length_nil]; refine le_ev [] ?_; simp only [hCr, hm, go_sem, ↓reduceIte]) ?_
    rintro i ⟨hi, hbl⟩
    unfold pc25l2
    rcases Nat.lt_or_ge i 12 with hil | hil
    · have hw : IntKind.i64.wrap ((i : Int) + 1) = ((i + 1 : Nat) : Int) := by rw [wrap64 (by omega) (by omega)]; omega
      have hsu := brTo_succ B i
      have hc := hcell i hil
      generalize (decide (1 ≤ i) && B i) = bb at hsu hc
      generalize brTo B i = R at hsu hbl ⊢
      unfold zeroC Assoc.cellsA Assoc.cells3 rowsD
      simp only [hw, Int.toNat_natCast, hc, take_map_len, hCk, hm, go_sem, ↓reduceIte]
      repeat' first | refine And.intro ?_ ?_ | intro _
      all_goals first
        | omega
        | (simp only [List.length_map]; omega)
        | skip
      all_goals first
        | (refine ⟨i + 1, ⟨hil, by rw [hsu, if_pos (by assumption), List.length_append, List.length_singleton]; omega⟩, by omega, ?_⟩
           rw [hsu, if_pos (by assumption), List.length_append, List.map_append]
           simp only [List.map_cons, List.map_nil, List.length_cons, List.length_nil, intRow]
           refine le_ev [] ?_
           simp only [hCr, hm, go_sem, ↓reduceIte]
           done)
        | (rename_i hbf
           refine ⟨i + 1, ⟨hil, by rw [hsu, if_neg (by rw [hbf]; decide), List.append_nil]; omega⟩, by omega, ?_⟩
           rw [hsu, if_neg (by rw [hbf]; decide), List.append_nil]
           refine le_ev [] ?_
           simp only [hCr, hm, go_sem, ↓reduceIte]
           done)
    · have : i = 12 := by omega
      subst this
      rw [brTo_end]
      unfold zeroC Assoc.cellsA Assoc.cells3 rowsD
      simp only [hm, go_sem, ↓reduceIte]
      repeat' first | refine And.intro ?_ ?_ | intro _
      all_goals first
        | omega
        | (refine ⟨_, rfl, ?_⟩; (refine le_ev [] ?_; simp only [hm, go_sem, ↓reduceIte]; first | done | rfl | exact ⟨rfl, rfl⟩))
  rintro t0 rfl
  generalize hR : rulesOf B = R at *
  refine run_seq (run_wpc _ _ _ _ _ ?_)
  unfold zeroC Assoc.cellsA Assoc.cells3 rowsD
  simp only [hm, go_sem, ↓reduceIte]
  intro _
  refine ⟨fun hn => ?_, fun hn => ?_⟩
  · have hne : R.isEmpty = false := by
      cases R with
      | nil => simp at hn
      | cons => rfl
    have hRne : R ≠ [] := fun e => by rw [e] at hne; exact Bool.noConfusion hne
    refine call_new2 (hP ▸ hcpy) rfl (dataClosed _) (dataClosed _) (vws_self _ _ rfl) ?_
    simp only [hm, go_sem, ↓reduceIte]
    rw [hne, if_neg (by decide)]
    exact ⟨.inr (.inr ⟨8, 9, 7, ⟨by decide, by decide, by decide⟩, hRne, rfl, rfl, rfl, rfl⟩)⟩
  · have hRn : R = [] := List.length_eq_zero_iff.1 (by omega)
    subst hRn
    refine run_wpc _ _ _ _ _ ?_
    simp only [hm, go_sem, ↓reduceIte]
    exact ⟨.inr (.inl ⟨4, 5, ⟨by decide, hno⟩, rfl, rfl, rfl, rfl⟩)⟩
theorem s_implAssocStep (a : Assoc) (p : Packet) (ha : SFit a.a) (hb : SFit a.b) : Spec Try.prog 25 0 [] [a.ro, p.ro] (Plain fun r => r = .tup [(assocStep a p).1.ro, .r (.ro none ((assocStep a p).2.map intRow))]) := by
  refine Spec.le (s_implAssocStep0 a p ha hb) fun r hp nx gs h => ⟨_, [], 0, [], ⟨rfl, rfl, rfl, rfl⟩, fun c hc => ?_⟩
  obtain ⟨h⟩ := h
  generalize assocStep a p = x at h
  obtain ⟨x, rs⟩ := x
  simp only at h
  rcases h with ⟨h, rfl⟩ | ⟨b, b1, hne, rfl, rfl, h0, h1⟩ | ⟨b, b1, b2, hne, _, rfl, h0, h1, h2⟩
  · obtain ⟨rfl, rfl⟩ := Prod.mk.inj h
    unfold zeroC
    refine Le.trans (t := ⟨[(0, .tup [.agg [.i 0, .i 0, .i 0, .bo false, .i 0, .i 0, .i 0, .r .nil, .i 0, .i 0, .i 0, .i 0, .r .nil, .i 0], .r .nil])], [], 0, []⟩) (le_ev [] (by simp only [hc, go_sem, ↓reduceIte])) ?_
    exact le_denil
  · have hu : x.ro = .agg x.cellsA := rfl
    rw [hu]
    unfold Assoc.cells3 Assoc.cellsA
    unfold rowsD at h0 h1
    refine Le.trans (t := ⟨[(0, .tup [.agg (x.cells3 0 1), .r .nil])], [(0, .row 7 (x.a.sent.map Data.row)), (1, .row 7 (x.b.sent.map Data.row))], 2, []⟩) (by unfold Assoc.cells3; exact le_ev [(0, b), (1, b1)] (by simp only [hc, go_sem, ↓reduceIte, h0, h1]; omega)) ?_
    unfold Assoc.cells3
    refine Le.trans (le_frz 0 rfl (by simp only [List.length_map, go_sem, ↓reduceIte]) (by simp only [go_sem, ↓reduceIte])) ?_
    simp only [take_map_len, List.drop_zero, go_sem, ↓reduceIte]
    refine Le.trans (le_frz 1 rfl (by simp only [List.length_map, go_sem, ↓reduceIte]) (by simp only [go_sem, ↓reduceIte])) ?_
    simp only [take_map_len, List.drop_zero, go_sem, ↓reduceIte]
    refine Le.trans le_denil ?_
    exact le_ev [] (by simp only [hc, List.map_nil, go_sem, ↓reduceIte])
  · have hu : x.ro = .agg x.cellsA := rfl
    rw [hu]
    unfold Assoc.cells3 Assoc.cellsA
    unfold rowsD at h0 h1
    refine Le.trans (t := ⟨[(0, .tup [.agg (x.cells3 0 1), .sl 2 0 rs.length])], [(0, .row 7 (x.a.sent.map Data.row)), (1, .row 7 (x.b.sent.map Data.row)), (2, .row 1 (rs.map intRow))], 3, []⟩) (by unfold Assoc.cells3; exact le_ev [(0, b), (1, b1), (2, b2)] (by simp only [hc, go_sem, ↓reduceIte, h0, h1, h2]; omega)) ?_
    unfold Assoc.cells3
    refine Le.trans (le_frz 0 rfl (by simp only [List.length_map, go_sem, ↓reduceIte]) (by simp only [go_sem, ↓reduceIte])) ?_
    simp only [take_map_len, List.drop_zero, go_sem, ↓reduceIte]
    refine Le.trans (le_frz 1 rfl (by simp only [List.length_map, go_sem, ↓reduceIte]) (by simp only [go_sem, ↓reduceIte])) ?_
    simp only [take_map_len, List.drop_zero, go_sem, ↓reduceIte]
    refine Le.trans (le_frz 2 rfl (by simp only [List.length_map, go_sem, ↓reduceIte]) (by simp only [go_sem, ↓reduceIte])) ?_
    simp only [take_map_len, List.drop_zero, go_sem, ↓reduceIte]
    exact le_ev [] (by simp only [hc, go_sem, ↓reduceIte])
end Go.Cap

/- Contracts: sizes of associations and monitors; monitors as arguments. -/
namespace Go.Cap
open Go Go.Proofs
set_option maxRecDepth 100000
set_option linter.unusedSimpArgs false
set_option linter.unusedVariables false
attribute [local irreducible] Call Run Spec Le

theorem szTexts_le : ∀ (l : List Int) (left : Int), (∀ n ∈ l, 0 ≤ n) → szTexts l left ≤ left ∨ szTexts l left = -1
  | [], left, _ => .inl (Int.le_refl _)
  | n :: l, left, hn => by
    simp only [szTexts]
    split
    · exact .inr rfl
    · rename_i h
      have h0 := hn n (by simp)
      have h1 := szText_le n left h0
      rcases szTexts_le l (szText n left) (fun m hm => hn m (by simp [hm])) with h2 | h2
      · rcases h1 with h1 | h1
        · exact .inl (by omega)
        · omega
      · exact .inr h2
theorem szDatas_le (l : List Data) (left : Int) : szDatas l left ≤ left ∨ szDatas l left = -1 := by
  unfold szDatas
  split
  · exact .inr rfl
  · have hn : ∀ n ∈ l.map (fun s => (s.text.length : Int)), 0 ≤ n := fun n hm => by
      obtain ⟨s, _, rfl⟩ := List.mem_map.1 hm; omega
    rcases szTexts_le _ (left - l.length) hn with h | h
    · exact .inl (by omega)
    · exact .inr h
/-- What a bound that holds says. -/
theorem szDatas_fit {l : List Data} {left : Int} (hl : left ≤ 1048576) (h : 0 ≤ szDatas l left) : l.length ≤ 1048576 ∧ ∀ s ∈ l, s.text.length ≤ 1048576 := by
  unfold szDatas at h
  split at h
  · omega
  · rename_i h1
    have hn : ∀ n ∈ l.map (fun s => (s.text.length : Int)), 0 ≤ n := fun n hm => by
      obtain ⟨s, _, rfl⟩ := List.mem_map.1 hm; omega
    have h2 := szTexts_spec _ _ hn h
    refine ⟨by omega, fun s hs => ?_⟩
    have := sum_mem _ hn s.text.length (List.mem_map.2 ⟨s, hs, rfl⟩)
    omega
/-- Every list and text may be as long as a slice. -/
def SLen (s : Side) : Prop := s.sent.length ≤ 9223372036854775807 ∧ ∀ d ∈ s.sent, d.text.length ≤ 9223372036854775807
def ALen (a : Assoc) : Prop := SLen a.a ∧ SLen a.b
def BFit (s : Side) : Prop := s.sent.length ≤ 1048576 ∧ ∀ d ∈ s.sent, d.text.length ≤ 1048576
theorem BFit.s {s : Side} (h : BFit s) : SFit s := ⟨by have := h.1; omega, fun d hd => by have := h.2 d hd; omega⟩
def szS (s : Side) (left : Int) : Int := if szDatas s.sent left < 0 then -1 else szDatas s.sent left
def szA (a : Assoc) (left : Int) : Int := if szS a.a left < 0 then -1 else if szS a.b (szS a.a left) < 0 then -1 else szS a.b (szS a.a left)
theorem szS_le (s : Side) (left : Int) : szS s left ≤ left ∨ szS s left = -1 := by
  unfold szS; split
  · exact .inr rfl
  · exact szDatas_le _ _
theorem szA_le (a : Assoc) (left : Int) : szA a left ≤ left ∨ szA a left = -1 := by
  have h1 := szS_le a.a left
  have h2 := szS_le a.b (szS a.a left)
  unfold szA
  split
  · exact .inr rfl
  · split
    · exact .inr rfl
    · omega
theorem szS_fit {s : Side} {left : Int} (hl : left ≤ 1048576) (h : 0 ≤ szS s left) : BFit s := by
  unfold szS at h
  split at h
  · omega
  · exact szDatas_fit hl h
theorem szA_fit {a : Assoc} {left : Int} (hl : left ≤ 1048576) (h : 0 ≤ szA a left) : BFit a.a ∧ BFit a.b := by
  unfold szA at h
  split at h
  · omega
  · rename_i h1
    split at h
    · omega
    · have := szS_le a.a left
      exact ⟨szS_fit hl (by omega), szS_fit (left := szS a.a left) (by omega) (by omega)⟩
theorem s_szSideP (t : Side) (left : Int) (h : 0 ≤ left ∧ left ≤ 1048576) (hs : SLen t) : Spec Try.prog 55 0 [] [t.ro, .i left] (fun r _ _ _ => r = .i (szS t left)) :=
  s_szSide t left h (by have := hs.1; omega) (fun s hm => by have := hs.2 s hm; omega)
theorem s_szAssoc (a : Assoc) (left : Int) (h : 0 ≤ left ∧ left ≤ 1048576) (hs : ALen a) : Spec Try.prog 20 0 [] [a.ro, .i left] (fun r _ _ _ => r = .i (szA a left)) := by
  refine mk20 rfl fun c hP hm => ?_
  unfold pc20 Assoc.ro Assoc.av
  simp only [hm, go_sem, ↓reduceIte]
  refine call_pure (hP ▸ s_szSideP a.a left h hs.1) rfl rfl ?_
  have h1 := szS_le a.a left
  unfold szA
  simp only [hm, go_sem, ↓reduceIte]
  repeat' first | refine And.intro ?_ ?_ | intro _
  all_goals first
    | (rename_i hx; rw [if_pos hx]; done)
    | (rename_i hx; rw [if_neg (by omega)]
       refine call_pure (hP ▸ s_szSideP a.b (szS a.a left) ⟨by omega, by omega⟩ hs.2) rfl rfl ?_
       simp only [hm, go_sem, ↓reduceIte]
       repeat' first | refine And.intro ?_ ?_ | intro _
       all_goals first
         | (rename_i hy; rw [if_pos hy]; done)
         | (rename_i hy; rw [if_neg (by omega)]; done)
         )
abbrev assocRow : List CT := [.i .i64, .i .i64, .i .i64, .b, .i .i64, .i .i64, .i .i64, .sl dataRow, .i .i64, .i .i64, .i .i64, .i .i64, .sl dataRow, .i .i64]
theorem assoc_of (r : List RV) (h : RowOk assocRow r) : ∃ a : Assoc, r = a.row ∧ ALen a := by
  obtain ⟨x0, r, rfl, h0, h⟩ := rowOk_cons h
  obtain ⟨x1, r, rfl, h1, h⟩ := rowOk_cons h
  obtain ⟨x2, r, rfl, h2, h⟩ := rowOk_cons h
  obtain ⟨x3, r, rfl, h3, h⟩ := rowOk_cons h
  obtain ⟨x4, r, rfl, h4, h⟩ := rowOk_cons h
  obtain ⟨x5, r, rfl, h5, h⟩ := rowOk_cons h
  obtain ⟨x6, r, rfl, h6, h⟩ := rowOk_cons h
  obtain ⟨x7, r, rfl, h7, h⟩ := rowOk_cons h
  obtain ⟨x8, r, rfl, h8, h⟩ := rowOk_cons h
  obtain ⟨x9, r, rfl, h9, h⟩ := rowOk_cons h
  obtain ⟨x10, r, rfl, h10, h⟩ := rowOk_cons h
  obtain ⟨x11, r, rfl, h11, h⟩ := rowOk_cons h
  obtain ⟨x12, r, rfl, h12, h⟩ := rowOk_cons h
  obtain ⟨x13, r, rfl, h13, h⟩ := rowOk_cons h
  obtain rfl := rowOk_nil h
  obtain ⟨n0, rfl, _⟩ := okc_i h0
  obtain ⟨n1, rfl, _⟩ := okc_i h1
  obtain ⟨n2, rfl, _⟩ := okc_i h2
  obtain ⟨n3, rfl⟩ := okc_b h3
  obtain ⟨n4, rfl, _⟩ := okc_i h4
  obtain ⟨n5, rfl, _⟩ := okc_i h5
  obtain ⟨n6, rfl, _⟩ := okc_i h6
  obtain ⟨L7, rfl, hL7, hr7⟩ := okc_sl h7
  obtain ⟨n8, rfl, _⟩ := okc_i h8
  obtain ⟨n9, rfl, _⟩ := okc_i h9
  obtain ⟨n10, rfl, _⟩ := okc_i h10
  obtain ⟨n11, rfl, _⟩ := okc_i h11
  obtain ⟨L12, rfl, hL12, hr12⟩ := okc_sl h12
  obtain ⟨n13, rfl, _⟩ := okc_i h13
  obtain ⟨l, rfl, hl⟩ := rows_of data_of hr7
  obtain ⟨k, rfl, hk⟩ := rows_of data_of hr12
  have e : maxLen = 9223372036854775807 := by decide
  rw [e] at hL7 hL12
  exact ⟨⟨n0, n1, n2, n3, ⟨n4, n5, n6, l, n8⟩, ⟨n9, n10, n11, k, n13⟩⟩, rfl, ⟨by simpa using hL7, fun d hd => by have := hl d hd; omega⟩, ⟨by simpa using hL12, fun d hd => by have := hk d hd; omega⟩⟩
end Go.Cap
