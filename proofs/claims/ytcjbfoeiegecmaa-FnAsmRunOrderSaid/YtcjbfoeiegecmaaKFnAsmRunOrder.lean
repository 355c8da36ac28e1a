import Derived.Test.YtcjbfoeiegecmaaH3
/- FnAsmRunOrder: its contract. -/
namespace Go.Cap
open Go Go.Proofs
set_option maxRecDepth 100000
set_option linter.unusedSimpArgs false
set_option linter.unusedVariables false
attribute [local irreducible] Call Run Spec Le

theorem spec_FnAsmRunOrder {L : List (List RV)} (h : Okc (.sl [.i .u8]) (.ro none L)) : Spec Try.prog 6 0 [] [.r (.ro none L)] (fun r _ _ _ => r = .bo true) := by
  obtain ⟨code, rfl, hlen⟩ := bytes_of h
  have e : maxLen = 9223372036854775807 := by decide
  rw [e] at hlen
  refine mk6 rfl fun c hP hm => ?_
  unfold pc6
  simp only [hm, go_sem, ↓reduceIte]
  intro _ hcut
  refine call_plain (hP ▸ s_DrawAsmRun code) rfl ?_
  rintro r ⟨n, l, rfl, b1, b2, b3, b4⟩
  refine ⟨rfl, ?_⟩
  have bx : ∀ x ∈ l, x.text.length ≤ 9223372036854775807 := fun x hx => by have := b4 x hx; omega
  simp only [hm, go_sem, ↓reduceIte]
  refine call_plain (hP ▸ s_implAsmRunP n l (by omega) bx) rfl ?_
  rintro r rfl
  refine ⟨rfl, ?_⟩
  simp only [hm, go_sem, ↓reduceIte]
  refine call_plain (hP ▸ s_specAsmRunP n l (by omega) bx) rfl ?_
  rintro r rfl
  refine ⟨rfl, ?_⟩
  simp only [hm, go_sem, ↓reduceIte]
  refine call_pure (hP ▸ s_sameMessages (asmRun n l)) rfl rfl ?_
  have hnum := asmRun_nums (n := n) (l := l) (by omega)
  have hrl : (asmRun n l).length ≤ 13 * l.length := by
    unfold asmRun
    split
    · exact (runSt_len n.toNat (by omega) l).2.2.1
    · simp
  generalize asmRun n l = ms at hnum hrl
  simp only [hm, go_sem, ↓reduceIte]
  refine lp_wpc (α := Nat) (fun i => ⟨[(5, .r (.ro none (ms.map Msg.row))), (7, .i i)], [], 0, []⟩) (fun i => i ≤ 4) (fun i => 4 - i) 0 (Nat.zero_le _) (by (refine le_ev [] ?_; simp only [hm, go_sem, ↓reduceIte]; first | done | rfl | exact ⟨rfl, rfl⟩)) ?_
  intro i hi
  unfold pc6l1
  rcases Nat.lt_or_ge i 4 with hil | hil
  · have hw : IntKind.i64.wrap ((i : Int) + 1) = (i : Int) + 1 := wrap64 (by omega) (by omega)
    simp only [hm, go_sem, ↓reduceIte]
    repeat' first | refine And.intro ?_ ?_ | intro _
    all_goals first
      | omega
      | rfl
      | (refine call_plain (hP ▸ s_ofStreamP ms i (by omega)) rfl ?_
         rintro r rfl
         refine ⟨rfl, ?_⟩
         have hx := hnum i hil
         have hol := ofStr_len (i : Int) ms
         generalize ofStr (i : Int) ms = os at hx hol
         simp only [hm, go_sem, ↓reduceIte]
         refine lp_wpc (α := Nat) (fun k => ⟨[(5, .r (.ro none (ms.map Msg.row))), (7, .i i), (8, .r (.ro none (os.map Msg.row))), (9, .i k)], [], 0, []⟩) (fun k => k ≤ os.length) (fun k => os.length - k) 0 (Nat.zero_le _) (by (refine le_ev [] ?_; simp only [hm, go_sem, ↓reduceIte]; first | done | rfl | exact ⟨rfl, rfl⟩)) ?_
         intro k hk
         unfold pc6l0
         rcases Nat.lt_or_ge k os.length with hkl | hkl
         · have hwk : IntKind.i64.wrap ((k : Int) + 1) = (k : Int) + 1 := wrap64 (by omega) (by omega)
           have hgk := getD_map (f := Msg.row) hkl
           have hsn := hx k hkl
           generalize os[k] = m at hgk hsn
           simp only [Int.toNat_natCast, hgk, Msg.row, hsn, hm, go_sem, ↓reduceIte]
           repeat' first | refine And.intro ?_ ?_ | intro _
           all_goals first
             | omega
             | rfl
             | (refine ⟨k + 1, hkl, by omega, ?_⟩
                rw [hwk]
                (refine le_ev [] ?_; simp only [hm, go_sem, ↓reduceIte]; first | done | rfl | exact ⟨rfl, rfl⟩))
         · have : k = os.length := by omega
           subst this
           simp only [hm, go_sem, ↓reduceIte]
           repeat' first | refine And.intro ?_ ?_ | intro _
           all_goals first
             | omega
             | rfl
             | (exfalso; omega)
             | (refine ⟨i + 1, hil, by omega, ?_⟩
                rw [hw]
                (refine le_ev [] ?_; simp only [hm, go_sem, ↓reduceIte]; first | done | rfl | exact ⟨rfl, rfl⟩))
             )
  · have : i = 4 := by omega
    subst this
    simp only [hm, go_sem, ↓reduceIte]
    repeat' first | refine And.intro ?_ ?_ | intro _
    all_goals first
      | omega
      | rfl
      | (exfalso; omega)
end Go.Cap
