import Derived.Test.YtcjbfoeiegecmaaH3
/- FnAsmRunPart: its contract. -/
namespace Go.Cap
open Go Go.Proofs
set_option maxRecDepth 100000
set_option linter.unusedSimpArgs false
set_option linter.unusedVariables false
attribute [local irreducible] Call Run Spec Le

theorem spec_FnAsmRunPart {L L2 : List (List RV)} (h : Okc (.sl [.i .u8]) (.ro none L)) (h2 : Okc (.sl [.i .u8]) (.ro none L2)) : Spec Try.prog 5 0 [] [.r (.ro none L), .r (.ro none L2)] (fun r _ _ _ => r = .bo true) := by
  obtain ⟨code, rfl, hlen⟩ := bytes_of h
  obtain ⟨more, rfl, hlen2⟩ := bytes_of h2
  have e : maxLen = 9223372036854775807 := by decide
  rw [e] at hlen hlen2
  refine mk5 rfl fun c hP hm => ?_
  unfold pc5
  simp only [hm, go_sem, ↓reduceIte]
  intro _ _ _ _
  refine call_plain (hP ▸ s_DrawAsmRun code) rfl ?_
  rintro r ⟨n, l, rfl, b1, b2, b3, b4⟩
  refine ⟨rfl, ?_⟩
  have bx : ∀ x ∈ l, x.text.length ≤ 9223372036854775807 := fun x hx => by have := b4 x hx; omega
  simp only [hm, go_sem, ↓reduceIte]
  refine call_plain (hP ▸ s_implAsmRunP n l (by omega) bx) rfl ?_
  rintro r rfl
  refine ⟨rfl, ?_⟩
  simp only [hm, go_sem, ↓reduceIte]
  refine call_plain (hP ▸ s_specAsmRunP n l (by omega) bx) rfl ?_
  rintro r rfl
  refine ⟨rfl, ?_⟩
  simp only [hm, go_sem, ↓reduceIte]
  refine call_pure (hP ▸ s_sameMessages (asmRun n l)) rfl rfl ?_
  have hw : IntKind.i64.wrap ((l.length : Int) + 1) = (l.length : Int) + 1 := wrap64 (by omega) (by omega)
  have hk : ((more.length : Int).tmod ((l.length : Int) + 1)) = ((more.length % (l.length + 1) : Nat) : Int) := by
    rw [Int.tmod_eq_emod_of_nonneg (by omega), Int.natCast_emod]; rfl
  have hkl : more.length % (l.length + 1) ≤ l.length := by have := Nat.mod_lt more.length (show 0 < l.length + 1 by omega); omega
  simp only [hw, hk, hm, go_sem, ↓reduceIte]
  generalize more.length % (l.length + 1) = k at hkl
  refine fun _ _ => ⟨by omega, ⟨⟨by omega, by omega⟩, rowsN_map (f := Data.row) (fun _ => rfl) _⟩, ?_⟩
  rw [Int.toNat_natCast, ← List.map_take]
  refine call_plain (hP ▸ s_implAsmRunP n (l.take k) (by rw [List.length_take]; omega) (fun d hd => bx d (List.mem_of_mem_take hd))) rfl ?_
  rintro r rfl
  refine ⟨rfl, ?_⟩
  obtain ⟨t, ht⟩ := asmRun_prefix n l k
  rw [ht]
  generalize asmRun n (l.take k) = x
  simp only [hm, go_sem, ↓reduceIte]
  intro _ _
  refine ⟨fun _ _ => ⟨⟨⟨by omega, by omega⟩, rowsN_map (f := Msg.row) (fun _ => rfl) _⟩, ?_⟩, fun h => by omega⟩
  rw [Int.toNat_natCast, ← List.map_take, List.take_left' rfl]
  refine call_pure (hP ▸ s_sameMessages x) rfl rfl ?_
  simp only [hm, go_sem, ↓reduceIte]
end Go.Cap
