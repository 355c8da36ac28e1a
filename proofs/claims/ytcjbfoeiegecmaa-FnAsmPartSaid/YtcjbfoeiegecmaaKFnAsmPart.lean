import Derived.Test.YtcjbfoeiegecmaaH3
/- FnAsmPart: its contract. -/
namespace Go.Cap
open Go Go.Proofs
set_option maxRecDepth 100000
set_option linter.unusedSimpArgs false
set_option linter.unusedVariables false
attribute [local irreducible] Call Run Spec Le

theorem asm_without {a : Asm} {k : Nat} (h : asmB a = true) : asmB ⟨a.next, a.parts.take k ++ a.parts.drop (k + 1)⟩ = true := by
  obtain ⟨v, hl⟩ := asm_val.1 h
  have hs : (a.parts.take k ++ a.parts.drop (k + 1)).Sublist a.parts := by
    have h1 : (a.parts.drop (k + 1)).Sublist (a.parts.drop k) := by rw [← List.drop_drop]; exact List.drop_sublist 1 _
    have := (List.Sublist.refl (a.parts.take k)).append h1
    rwa [List.take_append_drop] at this
  refine asm_val.2 ⟨⟨v.n4, v.next, fun d hd => v.ok d (hs.subset hd), v.nd.sublist (hs.map _)⟩, Nat.le_trans hs.length_le hl⟩
theorem asm_twice {a : Asm} {k : Nat} (hk : k < a.parts.length) : asmB ⟨a.next, a.parts.take (k + 1) ++ a.parts.drop k⟩ = false := by
  rw [Bool.eq_false_iff]
  intro h
  obtain ⟨v, _⟩ := asm_val.1 h
  have hn := v.nd
  simp only [List.map_append] at hn
  rw [List.nodup_append] at hn
  exact hn.2.2 a.parts[k].tsn (List.mem_map.2 ⟨_, List.mem_take_iff_getElem.2 ⟨k, by omega, rfl⟩, rfl⟩) a.parts[k].tsn (List.mem_map.2 ⟨_, by rw [List.drop_eq_getElem_cons hk]; exact List.mem_cons_self .., rfl⟩) rfl
theorem spec_FnAsmPart {L L2 : List (List RV)} (h : Okc (.sl [.i .u8]) (.ro none L)) (h2 : Okc (.sl [.i .u8]) (.ro none L2)) : Spec Try.prog 3 0 [] [.r (.ro none L), .r (.ro none L2)] (fun r _ _ _ => r = .bo true) := by
  obtain ⟨code, rfl, hlen⟩ := bytes_of h
  obtain ⟨more, rfl, hlen2⟩ := bytes_of h2
  have e : maxLen = 9223372036854775807 := by decide
  rw [e] at hlen hlen2
  refine mr3 rfl fun c hP hm => ?_
  unfold pc3
  refine run_seq (run_wpc _ _ _ _ _ ?_)
  simp only [hm, go_sem, ↓reduceIte]
  refine run_seq (run_wpc _ _ _ _ _ ?_)
  simp only [hm, go_sem, ↓reduceIte]
  intro _ _ _ _
  refine run_seq (run_wpc _ _ _ _ _ ?_)
  simp only [hm, go_sem, ↓reduceIte]
  refine call_plain (hP ▸ s_DrawAsmValid code) rfl ?_
  rintro r ⟨a, rfl, b1, b2, b3⟩
  refine ⟨rfl, ?_⟩
  have bx : ∀ x ∈ a.parts, x.text.length ≤ 9223372036854775807 := fun x hx => by have := b3 x hx; omega
  simp only [Asm.ro, hm, go_sem, ↓reduceIte]
  refine run_seq (run_wpc _ _ _ _ _ ?_)
  simp only [hm, go_sem, ↓reduceIte]
  refine call_pure (hP ▸ s_implAsmValid a (by omega) (by omega) bx) rfl rfl ?_
  simp only [hm, go_sem, ↓reduceIte]
  refine run_seq (run_wpc _ _ _ _ _ ?_)
  simp only [hm, go_sem, ↓reduceIte]
  refine call_pure (hP ▸ s_specAsmValid a (by omega) (by omega) bx) rfl rfl ?_
  simp only [hm, go_sem, ↓reduceIte]
  refine run_seq (run_wpc _ _ _ _ _ ?_)
  simp only [hm, go_sem, ↓reduceIte]
  cases hv : asmB a
  · simp only [hm, go_sem, ↓reduceIte]
  · simp only [hm, go_sem, ↓reduceIte]
    intro _ hne
    have hpos : 0 < a.parts.length := by omega
    have hk : ((more.length : Int).tmod (a.parts.length : Int)) = ((more.length % a.parts.length : Nat) : Int) := by
      rw [Int.tmod_eq_emod_of_nonneg (by omega), Int.natCast_emod]
    have hkl : more.length % a.parts.length < a.parts.length := Nat.mod_lt _ hpos
    refine run_seq (run_wpc _ _ _ _ _ ?_)
    simp only [hk, hm, go_sem, ↓reduceIte]
    refine fun _ _ => ⟨by omega, ?_⟩
    generalize more.length % a.parts.length = k at hkl
    have hw : IntKind.i64.wrap ((k : Int) + 1) = ((k + 1 : Nat) : Int) := by rw [wrap64 (by omega) (by omega)]; omega
    have ht1 : List.take k (a.parts.map Data.row) = (a.parts.take k).map Data.row := by rw [List.map_take]
    have ht2 : List.take (k + 1) (a.parts.map Data.row) = (a.parts.take (k + 1)).map Data.row := by rw [List.map_take]
    have hd1 : List.drop k (a.parts.map Data.row) = (a.parts.drop k).map Data.row := by rw [List.map_drop]
    have hd2 : List.drop (k + 1) (a.parts.map Data.row) = (a.parts.drop (k + 1)).map Data.row := by rw [List.map_drop]
    have htt : List.take a.parts.length (a.parts.map Data.row) = a.parts.map Data.row := List.take_of_length_le (by simp)
    have hrows : ∀ l : List Data, rowsN 7 (l.map Data.row) := fun l => rowsN_map (f := Data.row) (fun _ => rfl) l
    have hx1 : List.take (a.parts.take k).length ((a.parts.take k).map Data.row) ++ (a.parts.drop (k + 1)).map Data.row = (a.parts.take k ++ a.parts.drop (k + 1)).map Data.row := by rw [List.take_of_length_le (by simp), List.map_append]
    have hx2 : List.take (a.parts.take (k + 1)).length ((a.parts.take (k + 1)).map Data.row) ++ (a.parts.drop k).map Data.row = (a.parts.take (k + 1) ++ a.parts.drop k).map Data.row := by rw [List.take_of_length_le (by simp), List.map_append]
    have hl1 : (a.parts.take k).length + (a.parts.drop (k + 1)).length = (a.parts.take k ++ a.parts.drop (k + 1)).length := by rw [List.length_append]
    have hl2 : (a.parts.take (k + 1)).length + (a.parts.drop k).length = (a.parts.take (k + 1) ++ a.parts.drop k).length := by rw [List.length_append]
    have va := asm_without (k := k) hv
    have vb := asm_twice hkl
    have la : (a.parts.take k ++ a.parts.drop (k + 1)).length ≤ 60 := by simp only [List.length_append, List.length_take, List.length_drop]; omega
    have lb : (a.parts.take (k + 1) ++ a.parts.drop k).length ≤ 60 := by simp only [List.length_append, List.length_take, List.length_drop]; omega
    have xa : ∀ x ∈ a.parts.take k ++ a.parts.drop (k + 1), x.text.length ≤ 9223372036854775807 := fun x hx => (List.mem_append.1 hx).elim (fun h => bx x (List.mem_of_mem_take h)) (fun h => bx x (List.mem_of_mem_drop h))
    have xb : ∀ x ∈ a.parts.take (k + 1) ++ a.parts.drop k, x.text.length ≤ 9223372036854775807 := fun x hx => (List.mem_append.1 hx).elim (fun h => bx x (List.mem_of_mem_take h)) (fun h => bx x (List.mem_of_mem_drop h))
    generalize hpx : a.parts.take k ++ a.parts.drop (k + 1) = px at hx1 hl1 va la xa
    generalize hpy : a.parts.take (k + 1) ++ a.parts.drop k = py at hx2 hl2 vb lb xb
    refine run_join (fun t => t = ⟨[(5, .ptr 0 0 0), (8, .i k), (9, .ptr 1 0 0)], [(0, .var [.r (.ro none (a.next.map intRow)), .r (.ro none (a.parts.map Data.row))]), (1, .var [.r (.ro none (a.next.map intRow)), .sl 2 0 px.length]), (2, .row 7 (px.map Data.row))], 3, []⟩) (run_wpc _ _ _ _ _ ?_) ?_
    · simp only [hw, Int.toNat_natCast, ht1, ht2, hd1, hd2, htt, hx1, hl1, hm, go_sem, ↓reduceIte]
      repeat' first | exact hrows _ | refine And.intro ?_ ?_
      all_goals first
        | omega
        | (simp only [List.length_map, List.length_take, List.length_drop]; omega)
        | (refine ⟨_, rfl, le_ev [(0, 0), (1, 2), (2, 1)] ?_⟩; simp only [hm, go_sem, ↓reduceIte]; first | done | rfl | exact ⟨rfl, rfl⟩)
        | (refine ⟨_, rfl, le_ev [(0, 0), (1, 1), (2, 2)] ?_⟩; simp only [hm, go_sem, ↓reduceIte]; first | done | rfl | exact ⟨rfl, rfl⟩)
    rintro t rfl
    refine run_join (fun t => t = ⟨[(9, .ptr 1 0 0), (10, .ptr 3 0 0)], [(1, .var [.r (.ro none (a.next.map intRow)), .sl 2 0 px.length]), (2, .row 7 (px.map Data.row)), (3, .var [.r (.ro none (a.next.map intRow)), .sl 4 0 py.length]), (4, .row 7 (py.map Data.row))], 5, []⟩) (run_wpc _ _ _ _ _ ?_) ?_
    · simp only [hw, Int.toNat_natCast, ht1, ht2, hd1, hd2, htt, hx2, hl2, hm, go_sem, ↓reduceIte]
      repeat' first | exact hrows _ | refine And.intro ?_ ?_
      all_goals first
        | omega
        | (simp only [List.length_map, List.length_take, List.length_drop]; omega)
        | (refine ⟨_, rfl, le_ev [(1, 1), (2, 2), (3, 4), (4, 3)] ?_⟩; simp only [hm, go_sem, ↓reduceIte]; first | done | rfl | exact ⟨rfl, rfl⟩)
        | (refine ⟨_, rfl, le_ev [(1, 1), (2, 2), (3, 3), (4, 4)] ?_⟩; simp only [hm, go_sem, ↓reduceIte]; first | done | rfl | exact ⟨rfl, rfl⟩)
    rintro t rfl
    refine run_wpc _ _ _ _ _ ?_
    simp only [hm, go_sem, ↓reduceIte]
    refine call_flat (hP ▸ s_implAsmValid ⟨a.next, px⟩ (by simp only; omega) (by simp only; omega) xa) rfl (.cons (vw_agg (.cons (vw_self _ _ rfl) (.cons (Vw.full rfl (by simp)) .nil))) .nil) ?_
    simp only [va, hm, go_sem, ↓reduceIte]
    refine call_flat (hP ▸ s_implAsmValid ⟨a.next, py⟩ (by simp only; omega) (by simp only; omega) xb) rfl (.cons (vw_agg (.cons (vw_self _ _ rfl) (.cons (Vw.full rfl (by simp)) .nil))) .nil) ?_
    simp only [vb, hm, go_sem, ↓reduceIte]
end Go.Cap
