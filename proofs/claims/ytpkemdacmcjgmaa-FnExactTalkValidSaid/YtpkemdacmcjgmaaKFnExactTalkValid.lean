import Derived.Test.YtpkemdacmcjgmaaA3
/- FnExactTalkValid: its contract. -/
namespace Go.Cap
open Go Go.Proofs
set_option maxRecDepth 100000
set_option linter.unusedSimpArgs false
set_option linter.unusedVariables false
attribute [local irreducible] Call Run Spec Le

abbrev I64 : CT := .i .i64
abbrev sayRow : List CT := [.b, I64, .b, .s]
abbrev talkRow : List CT := [I64, I64, I64, I64, I64, I64, I64, I64, I64, I64, I64, .sl sayRow]
theorem say_of (r : List RV) (h : RowOk sayRow r) : ∃ s : Say, r = s.row ∧ s.text.length ≤ maxLen := by
  obtain ⟨x0, r, rfl, h0, h⟩ := rowOk_cons h
  obtain ⟨x1, r, rfl, h1, h⟩ := rowOk_cons h
  obtain ⟨x2, r, rfl, h2, h⟩ := rowOk_cons h
  obtain ⟨x3, r, rfl, h3, h⟩ := rowOk_cons h
  obtain rfl := rowOk_nil h
  obtain ⟨a, rfl⟩ := okc_b h0
  obtain ⟨b, rfl, _⟩ := okc_i h1
  obtain ⟨d, rfl⟩ := okc_b h2
  obtain ⟨e, rfl, he⟩ := okc_s h3
  exact ⟨⟨a, b, d, e⟩, rfl, he⟩
theorem talk_of {xs : List RV} (h : RowOk talkRow xs) : ∃ t : Talk, AV.agg (xs.map .r) = t.ro ∧ t.says.length ≤ maxLen ∧ ∀ s ∈ t.says, s.text.length ≤ maxLen := by
  obtain ⟨x0, r, rfl, h0, h⟩ := rowOk_cons h
  obtain ⟨x1, r, rfl, h1, h⟩ := rowOk_cons h
  obtain ⟨x2, r, rfl, h2, h⟩ := rowOk_cons h
  obtain ⟨x3, r, rfl, h3, h⟩ := rowOk_cons h
  obtain ⟨x4, r, rfl, h4, h⟩ := rowOk_cons h
  obtain ⟨x5, r, rfl, h5, h⟩ := rowOk_cons h
  obtain ⟨x6, r, rfl, h6, h⟩ := rowOk_cons h
  obtain ⟨x7, r, rfl, h7, h⟩ := rowOk_cons h
  obtain ⟨x8, r, rfl, h8, h⟩ := rowOk_cons h
  obtain ⟨x9, r, rfl, h9, h⟩ := rowOk_cons h
  obtain ⟨xa, r, rfl, ha, h⟩ := rowOk_cons h
  obtain ⟨xb, r, rfl, hb, h⟩ := rowOk_cons h
  obtain rfl := rowOk_nil h
  obtain ⟨n0, rfl, _⟩ := okc_i h0
  obtain ⟨n1, rfl, _⟩ := okc_i h1
  obtain ⟨n2, rfl, _⟩ := okc_i h2
  obtain ⟨n3, rfl, _⟩ := okc_i h3
  obtain ⟨n4, rfl, _⟩ := okc_i h4
  obtain ⟨n5, rfl, _⟩ := okc_i h5
  obtain ⟨n6, rfl, _⟩ := okc_i h6
  obtain ⟨n7, rfl, _⟩ := okc_i h7
  obtain ⟨n8, rfl, _⟩ := okc_i h8
  obtain ⟨n9, rfl, _⟩ := okc_i h9
  obtain ⟨na, rfl, _⟩ := okc_i ha
  obtain ⟨L, rfl, hL, hrows⟩ := okc_sl hb
  obtain ⟨l, rfl, hl⟩ := rows_of say_of hrows
  exact ⟨⟨n0, n1, ⟨n2, n3, n4, n5⟩, ⟨n6, n7, n8, n9⟩, na, l⟩, rfl, by simpa using hL, hl⟩
theorem vw_talk {hp : List (Nat × Blk)} {b : Nat} {t : Talk} {n : Nat} (h : hget hp b = some (.row 4 (t.says.map Say.row))) (hn : n = t.says.length) : Vw hp (t.av (.sl b 0 n)) t.ro :=
  vw_agg (.cons (.r _) (.cons (.r _) (.cons (.r _) (.cons (.r _) (.cons (.r _) (.cons (.r _) (.cons (.r _) (.cons (.r _) (.cons (.r _) (.cons (.r _) (.cons (.r _) (.cons (Vw.full h (by simpa using hn)) .nil))))))))))))

theorem s_exactTalkValid (t : Talk) (hl : t.says.length ≤ maxLen) (hx : ∀ s ∈ t.says, s.text.length ≤ maxLen) : Spec Try.prog 3 0 [] [t.ro] (fun r _ _ _ => r = .bo true) := by
  have e : maxLen = 9223372036854775807 := by decide
  rw [e] at hl hx
  refine mk3 rfl fun c hP hm => ?_
  unfold pc3 Talk.ro Talk.av
  simp only [go_sem, Int.reduceLE, Int.reduceLT, Int.le_refl, Int.lt_irrefl, Int.reduceToNat, Int.cast_ofNat_Int, Int.natCast_zero, Int.natCast_one, not_true_eq_false, not_false_eq_true, List.not_mem_nil, List.mem_cons, or_false, List.map, ↓reduceIte, Nat.reduceEqDiff, reduceCtorEq, Bool.not_true, Bool.not_false, forall_const, true_imp_iff, imp_true_iff, implies_true, false_imp_iff, and_true, true_and, false_and, and_false, POp.dst, Nat.reduceAdd, Nat.reduceLT, Nat.reduceLeDiff, Nat.reduceMul, Nat.reduceSub, Nat.zero_add, Nat.add_zero, Nat.mul_one, Nat.zero_mul, Nat.zero_le, Nat.le_refl, List.length_cons, List.length_nil, List.length_map, List.length_append, List.nil_append, List.cons_append, List.append_nil, List.take_zero, List.drop_zero, List.take_succ_cons, List.drop_succ_cons, List.take_nil, List.drop_nil, List.set_cons_zero, List.set_cons_succ, List.replicate, List.getD_cons_zero, List.getD_cons_succ, Int.toNat_zero, Nat.not_lt_zero, Option.map, csub, asub, decide_eq_true_eq, decide_eq_false_iff_not, bne_iff_ne, beq_iff_eq, ne_eq, Bool.not_eq_true', bne_eq_false_iff_eq, beq_eq_false_iff_ne, Bool.not_eq_false', ge_iff_le, gt_iff_lt, Int.not_le, Int.not_lt, Bool.xor_false, Bool.false_xor, Bool.true_xor, Bool.xor_true, beq_self_eq_true, bne_self_eq_false, Bool.true_bne, Bool.false_bne, Bool.bne_true, Bool.bne_false]
  refine call_pure (hP ▸ s_szTalk t 1048576 (by omega) (by omega) (fun s hs => by have := hx s hs; omega)) rfl rfl ?_
  simp only [go_sem, Int.reduceLE, Int.reduceLT, Int.le_refl, Int.lt_irrefl, Int.reduceToNat, Int.cast_ofNat_Int, Int.natCast_zero, Int.natCast_one, not_true_eq_false, not_false_eq_true, List.not_mem_nil, List.mem_cons, or_false, List.map, ↓reduceIte, Nat.reduceEqDiff, reduceCtorEq, Bool.not_true, Bool.not_false, forall_const, true_imp_iff, imp_true_iff, implies_true, false_imp_iff, and_true, true_and, false_and, and_false, POp.dst, Nat.reduceAdd, Nat.reduceLT, Nat.reduceLeDiff, Nat.reduceMul, Nat.reduceSub, Nat.zero_add, Nat.add_zero, Nat.mul_one, Nat.zero_mul, Nat.zero_le, Nat.le_refl, List.length_cons, List.length_nil, List.length_map, List.length_append, List.nil_append, List.cons_append, List.append_nil, List.take_zero, List.drop_zero, List.take_succ_cons, List.drop_succ_cons, List.take_nil, List.drop_nil, List.set_cons_zero, List.set_cons_succ, List.replicate, List.getD_cons_zero, List.getD_cons_succ, Int.toNat_zero, Nat.not_lt_zero, Option.map, csub, asub, decide_eq_true_eq, decide_eq_false_iff_not, bne_iff_ne, beq_iff_eq, ne_eq, Bool.not_eq_true', bne_eq_false_iff_eq, beq_eq_false_iff_ne, Bool.not_eq_false', ge_iff_le, gt_iff_lt, Int.not_le, Int.not_lt, Bool.xor_false, Bool.false_xor, Bool.true_xor, Bool.xor_true, beq_self_eq_true, bne_self_eq_false, Bool.true_bne, Bool.false_bne, Bool.bne_true, Bool.bne_false]
  intro hz
  have hz' : 0 ≤ szSays t.says 1048576 := by
    split at hz
    · omega
    · omega
  obtain ⟨hl', hx'⟩ := szSays_ok hz'
  refine call_new1 (hP ▸ s_toTalk t hl') rfl (sayClosed _) (vws_self _ _ rfl) ?_
  simp only [Talk.av, go_sem, Int.reduceLE, Int.reduceLT, Int.le_refl, Int.lt_irrefl, Int.reduceToNat, Int.cast_ofNat_Int, Int.natCast_zero, Int.natCast_one, not_true_eq_false, not_false_eq_true, List.not_mem_nil, List.mem_cons, or_false, List.map, ↓reduceIte, Nat.reduceEqDiff, reduceCtorEq, Bool.not_true, Bool.not_false, forall_const, true_imp_iff, imp_true_iff, implies_true, false_imp_iff, and_true, true_and, false_and, and_false, POp.dst, Nat.reduceAdd, Nat.reduceLT, Nat.reduceLeDiff, Nat.reduceMul, Nat.reduceSub, Nat.zero_add, Nat.add_zero, Nat.mul_one, Nat.zero_mul, Nat.zero_le, Nat.le_refl, List.length_cons, List.length_nil, List.length_map, List.length_append, List.nil_append, List.cons_append, List.append_nil, List.take_zero, List.drop_zero, List.take_succ_cons, List.drop_succ_cons, List.take_nil, List.drop_nil, List.set_cons_zero, List.set_cons_succ, List.replicate, List.getD_cons_zero, List.getD_cons_succ, Int.toNat_zero, Nat.not_lt_zero, Option.map, csub, asub, decide_eq_true_eq, decide_eq_false_iff_not, bne_iff_ne, beq_iff_eq, ne_eq, Bool.not_eq_true', bne_eq_false_iff_eq, beq_eq_false_iff_ne, Bool.not_eq_false', ge_iff_le, gt_iff_lt, Int.not_le, Int.not_lt, Bool.xor_false, Bool.false_xor, Bool.true_xor, Bool.xor_true, beq_self_eq_true, bne_self_eq_false, Bool.true_bne, Bool.false_bne, Bool.bne_true, Bool.bne_false]
  refine call_flat (hP ▸ s_specTalkValid t hl' hx') rfl (.cons (vw_talk rfl rfl) .nil) ?_
  simp only [go_sem, Int.reduceLE, Int.reduceLT, Int.le_refl, Int.lt_irrefl, Int.reduceToNat, Int.cast_ofNat_Int, Int.natCast_zero, Int.natCast_one, not_true_eq_false, not_false_eq_true, List.not_mem_nil, List.mem_cons, or_false, List.map, ↓reduceIte, Nat.reduceEqDiff, reduceCtorEq, Bool.not_true, Bool.not_false, forall_const, true_imp_iff, imp_true_iff, implies_true, false_imp_iff, and_true, true_and, false_and, and_false, POp.dst, Nat.reduceAdd, Nat.reduceLT, Nat.reduceLeDiff, Nat.reduceMul, Nat.reduceSub, Nat.zero_add, Nat.add_zero, Nat.mul_one, Nat.zero_mul, Nat.zero_le, Nat.le_refl, List.length_cons, List.length_nil, List.length_map, List.length_append, List.nil_append, List.cons_append, List.append_nil, List.take_zero, List.drop_zero, List.take_succ_cons, List.drop_succ_cons, List.take_nil, List.drop_nil, List.set_cons_zero, List.set_cons_succ, List.replicate, List.getD_cons_zero, List.getD_cons_succ, Int.toNat_zero, Nat.not_lt_zero, Option.map, csub, asub, decide_eq_true_eq, decide_eq_false_iff_not, bne_iff_ne, beq_iff_eq, ne_eq, Bool.not_eq_true', bne_eq_false_iff_eq, beq_eq_false_iff_ne, Bool.not_eq_false', ge_iff_le, gt_iff_lt, Int.not_le, Int.not_lt, Bool.xor_false, Bool.false_xor, Bool.true_xor, Bool.xor_true, beq_self_eq_true, bne_self_eq_false, Bool.true_bne, Bool.false_bne, Bool.bne_true, Bool.bne_false]
  refine call_new1 (hP ▸ s_toTalk t hl') rfl (sayClosed _) (vws_self _ _ rfl) ?_
  simp only [Talk.av, go_sem, Int.reduceLE, Int.reduceLT, Int.le_refl, Int.lt_irrefl, Int.reduceToNat, Int.cast_ofNat_Int, Int.natCast_zero, Int.natCast_one, not_true_eq_false, not_false_eq_true, List.not_mem_nil, List.mem_cons, or_false, List.map, ↓reduceIte, Nat.reduceEqDiff, reduceCtorEq, Bool.not_true, Bool.not_false, forall_const, true_imp_iff, imp_true_iff, implies_true, false_imp_iff, and_true, true_and, false_and, and_false, POp.dst, Nat.reduceAdd, Nat.reduceLT, Nat.reduceLeDiff, Nat.reduceMul, Nat.reduceSub, Nat.zero_add, Nat.add_zero, Nat.mul_one, Nat.zero_mul, Nat.zero_le, Nat.le_refl, List.length_cons, List.length_nil, List.length_map, List.length_append, List.nil_append, List.cons_append, List.append_nil, List.take_zero, List.drop_zero, List.take_succ_cons, List.drop_succ_cons, List.take_nil, List.drop_nil, List.set_cons_zero, List.set_cons_succ, List.replicate, List.getD_cons_zero, List.getD_cons_succ, Int.toNat_zero, Nat.not_lt_zero, Option.map, csub, asub, decide_eq_true_eq, decide_eq_false_iff_not, bne_iff_ne, beq_iff_eq, ne_eq, Bool.not_eq_true', bne_eq_false_iff_eq, beq_eq_false_iff_ne, Bool.not_eq_false', ge_iff_le, gt_iff_lt, Int.not_le, Int.not_lt, Bool.xor_false, Bool.false_xor, Bool.true_xor, Bool.xor_true, beq_self_eq_true, bne_self_eq_false, Bool.true_bne, Bool.false_bne, Bool.bne_true, Bool.bne_false]
  refine call_flat (hP ▸ s_implTalkValid t hl') rfl (.cons (vw_talk rfl rfl) .nil) ?_
  simp only [go_sem, Int.reduceLE, Int.reduceLT, Int.le_refl, Int.lt_irrefl, Int.reduceToNat, Int.cast_ofNat_Int, Int.natCast_zero, Int.natCast_one, not_true_eq_false, not_false_eq_true, List.not_mem_nil, List.mem_cons, or_false, List.map, ↓reduceIte, Nat.reduceEqDiff, reduceCtorEq, Bool.not_true, Bool.not_false, forall_const, true_imp_iff, imp_true_iff, implies_true, false_imp_iff, and_true, true_and, false_and, and_false, POp.dst, Nat.reduceAdd, Nat.reduceLT, Nat.reduceLeDiff, Nat.reduceMul, Nat.reduceSub, Nat.zero_add, Nat.add_zero, Nat.mul_one, Nat.zero_mul, Nat.zero_le, Nat.le_refl, List.length_cons, List.length_nil, List.length_map, List.length_append, List.nil_append, List.cons_append, List.append_nil, List.take_zero, List.drop_zero, List.take_succ_cons, List.drop_succ_cons, List.take_nil, List.drop_nil, List.set_cons_zero, List.set_cons_succ, List.replicate, List.getD_cons_zero, List.getD_cons_succ, Int.toNat_zero, Nat.not_lt_zero, Option.map, csub, asub, decide_eq_true_eq, decide_eq_false_iff_not, bne_iff_ne, beq_iff_eq, ne_eq, Bool.not_eq_true', bne_eq_false_iff_eq, beq_eq_false_iff_ne, Bool.not_eq_false', ge_iff_le, gt_iff_lt, Int.not_le, Int.not_lt, Bool.xor_false, Bool.false_xor, Bool.true_xor, Bool.xor_true, beq_self_eq_true, bne_self_eq_false, Bool.true_bne, Bool.false_bne, Bool.bne_true, Bool.bne_false]
  refine call_new1 (hP ▸ s_toTalk t hl') rfl (sayClosed _) (vws_self _ _ rfl) ?_
  simp only [Talk.av, go_sem, Int.reduceLE, Int.reduceLT, Int.le_refl, Int.lt_irrefl, Int.reduceToNat, Int.cast_ofNat_Int, Int.natCast_zero, Int.natCast_one, not_true_eq_false, not_false_eq_true, List.not_mem_nil, List.mem_cons, or_false, List.map, ↓reduceIte, Nat.reduceEqDiff, reduceCtorEq, Bool.not_true, Bool.not_false, forall_const, true_imp_iff, imp_true_iff, implies_true, false_imp_iff, and_true, true_and, false_and, and_false, POp.dst, Nat.reduceAdd, Nat.reduceLT, Nat.reduceLeDiff, Nat.reduceMul, Nat.reduceSub, Nat.zero_add, Nat.add_zero, Nat.mul_one, Nat.zero_mul, Nat.zero_le, Nat.le_refl, List.length_cons, List.length_nil, List.length_map, List.length_append, List.nil_append, List.cons_append, List.append_nil, List.take_zero, List.drop_zero, List.take_succ_cons, List.drop_succ_cons, List.take_nil, List.drop_nil, List.set_cons_zero, List.set_cons_succ, List.replicate, List.getD_cons_zero, List.getD_cons_succ, Int.toNat_zero, Nat.not_lt_zero, Option.map, csub, asub, decide_eq_true_eq, decide_eq_false_iff_not, bne_iff_ne, beq_iff_eq, ne_eq, Bool.not_eq_true', bne_eq_false_iff_eq, beq_eq_false_iff_ne, Bool.not_eq_false', ge_iff_le, gt_iff_lt, Int.not_le, Int.not_lt, Bool.xor_false, Bool.false_xor, Bool.true_xor, Bool.xor_true, beq_self_eq_true, bne_self_eq_false, Bool.true_bne, Bool.false_bne, Bool.bne_true, Bool.bne_false]
  refine call_flat (hP ▸ s_eqTalk t) rfl (.cons (vw_talk rfl rfl) (.cons (vw_talk rfl rfl) .nil)) ?_
  simp only [go_sem, Int.reduceLE, Int.reduceLT, Int.le_refl, Int.lt_irrefl, Int.reduceToNat, Int.cast_ofNat_Int, Int.natCast_zero, Int.natCast_one, not_true_eq_false, not_false_eq_true, List.not_mem_nil, List.mem_cons, or_false, List.map, ↓reduceIte, Nat.reduceEqDiff, reduceCtorEq, Bool.not_true, Bool.not_false, forall_const, true_imp_iff, imp_true_iff, implies_true, false_imp_iff, and_true, true_and, false_and, and_false, POp.dst, Nat.reduceAdd, Nat.reduceLT, Nat.reduceLeDiff, Nat.reduceMul, Nat.reduceSub, Nat.zero_add, Nat.add_zero, Nat.mul_one, Nat.zero_mul, Nat.zero_le, Nat.le_refl, List.length_cons, List.length_nil, List.length_map, List.length_append, List.nil_append, List.cons_append, List.append_nil, List.take_zero, List.drop_zero, List.take_succ_cons, List.drop_succ_cons, List.take_nil, List.drop_nil, List.set_cons_zero, List.set_cons_succ, List.replicate, List.getD_cons_zero, List.getD_cons_succ, Int.toNat_zero, Nat.not_lt_zero, Option.map, csub, asub, decide_eq_true_eq, decide_eq_false_iff_not, bne_iff_ne, beq_iff_eq, ne_eq, Bool.not_eq_true', bne_eq_false_iff_eq, beq_eq_false_iff_ne, Bool.not_eq_false', ge_iff_le, gt_iff_lt, Int.not_le, Int.not_lt, Bool.xor_false, Bool.false_xor, Bool.true_xor, Bool.xor_true, beq_self_eq_true, bne_self_eq_false, Bool.true_bne, Bool.false_bne, Bool.bne_true, Bool.bne_false]
theorem spec_FnExactTalkValid {xs : List RV} (h : RowOk talkRow xs) : Spec Try.prog 3 0 [] [.agg (xs.map .r)] (fun r _ _ _ => r = .bo true) := by
  obtain ⟨t, e, hl, hx⟩ := talk_of h
  rw [e]
  exact s_exactTalkValid t hl hx
end Go.Cap
