import Derived.Test.YtcjbfoeiegecmaaH1
/- FnAsmAgain: its contract. -/
namespace Go.Cap
open Go Go.Proofs
set_option maxRecDepth 100000
set_option linter.unusedSimpArgs false
set_option linter.unusedVariables false
attribute [local irreducible] Call Run Spec Le

theorem spec_FnAsmAgain {L : List (List RV)} (h : Okc (.sl [.i .u8]) (.ro none L)) : Spec Try.prog 11 0 [] [.r (.ro none L)] (fun r _ _ _ => r = .bo true) := by
  obtain ⟨code, rfl, hlen⟩ := bytes_of h
  have e : maxLen = 9223372036854775807 := by decide
  rw [e] at hlen
  refine mk11 rfl fun c hP hm => ?_
  unfold pc11
  simp only [hm, go_sem, ↓reduceIte]
  intro _ hcut
  refine call_plain (hP ▸ s_DrawAsmAdd code) rfl ?_
  rintro r ⟨a, d, rfl, ⟨b1, b2, b3⟩, b4⟩
  refine ⟨rfl, ?_⟩
  have bx : ∀ x ∈ a.parts, x.text.length ≤ 9223372036854775807 := fun x hx => by have := b3 x hx; omega
  simp only [Asm.ro, Data.av, hm, go_sem, ↓reduceIte]
  cases add_case a d with
  | bad e hb =>
    refine c_implAsmAdd hP (a := a) (d := d) (by omega) (by omega) bx (by omega) (vws_self _ _ rfl) (fun h3 => ?_) (fun h0 => by rw [e] at h0; cases h0) (fun h3 _ => absurd (by rw [e]) h3)
    simp only [hm, go_sem, ↓reduceIte]
    refine c_specAsmAdd hP (a := a) (d := d) (by omega) (by omega) bx (by omega) (vws_self _ _ rfl) (fun _ => ?_) (fun h => absurd h3 h)
    simp only [hm, go_sem, ↓reduceIte]
    refine call_flat (hP ▸ s_sameAsm ⟨[], []⟩) rfl (.cons (vw_agg (.cons Vw.nil (.cons Vw.nil .nil))) (.cons (vw_agg (.cons Vw.nil (.cons Vw.nil .nil))) .nil)) ?_
    simp only [hm, go_sem, ↓reduceIte]
    refine call_flat (hP ▸ s_sameMessages []) rfl (.cons Vw.nil (.cons (Vw.full rfl (by simp)) .nil)) ?_
    simp only [hm, go_sem, ↓reduceIte]
    refine call_flat (hP ▸ s_sameAsm ⟨[], []⟩) rfl (.cons (vw_agg (.cons Vw.nil (.cons Vw.nil .nil))) (.cons (vw_agg (.cons Vw.nil (.cons Vw.nil .nil))) .nil)) ?_
    simp only [hm, go_sem, ↓reduceIte]
    refine call_flat (hP ▸ s_sameMessages []) rfl (.cons Vw.nil (.cons (Vw.full rfl (by simp)) .nil)) ?_
    simp only [hm, go_sem, ↓reduceIte]
  | twice e hv hd hs ha =>
    refine c_implAsmAdd hP (a := a) (d := d) (by omega) (by omega) bx (by omega) (vws_self _ _ rfl) (fun h3 => by rw [e] at h3; cases h3) (fun h0 => by rw [e] at h0; cases h0) (fun _ _ => ?_)
    simp only [hm, go_sem, ↓reduceIte]
    refine c_specAsmAdd hP (a := a) (d := d) (by omega) (by omega) bx (by omega) (vws_self _ _ rfl) (fun h3 => by rw [e] at h3; cases h3) (fun _ => ?_)
    simp only [e, List.map_nil, List.length_nil, hm, go_sem, ↓reduceIte]
    refine call_flat (hP ▸ s_sameAsm a) rfl (.cons (vw_asm rfl rfl) (.cons (vw_asm rfl rfl) .nil)) ?_
    simp only [hm, go_sem, ↓reduceIte]
    refine call_flat (hP ▸ s_sameMessages []) rfl (.cons Vw.nil (.cons (Vw.full rfl (by simp)) .nil)) ?_
    simp only [hm, go_sem, ↓reduceIte]
    refine call_flat (hP ▸ s_sameAsm a) rfl (.cons (vw_asm rfl rfl) (.cons (vw_asm rfl rfl) .nil)) ?_
    simp only [hm, go_sem, ↓reduceIte]
    refine call_flat (hP ▸ s_sameMessages []) rfl (.cons Vw.nil (.cons (Vw.full rfl (by simp)) .nil)) ?_
    simp only [hm, go_sem, ↓reduceIte]
  | full e hv hd hs ha hl =>
    refine c_implAsmAdd hP (a := a) (d := d) (by omega) (by omega) bx (by omega) (vws_self _ _ rfl) (fun h3 => by rw [e] at h3; cases h3) (fun h0 => by rw [e] at h0; cases h0) (fun _ _ => ?_)
    simp only [hm, go_sem, ↓reduceIte]
    refine c_specAsmAdd hP (a := a) (d := d) (by omega) (by omega) bx (by omega) (vws_self _ _ rfl) (fun h3 => by rw [e] at h3; cases h3) (fun _ => ?_)
    simp only [e, List.map_nil, List.length_nil, hm, go_sem, ↓reduceIte]
    refine call_flat (hP ▸ s_sameAsm a) rfl (.cons (vw_asm rfl rfl) (.cons (vw_asm rfl rfl) .nil)) ?_
    simp only [hm, go_sem, ↓reduceIte]
    refine call_flat (hP ▸ s_sameMessages []) rfl (.cons Vw.nil (.cons (Vw.full rfl (by simp)) .nil)) ?_
    simp only [hm, go_sem, ↓reduceIte]
    refine call_flat (hP ▸ s_sameAsm a) rfl (.cons (vw_asm rfl rfl) (.cons (vw_asm rfl rfl) .nil)) ?_
    simp only [hm, go_sem, ↓reduceIte]
    refine call_flat (hP ▸ s_sameMessages []) rfl (.cons Vw.nil (.cons (Vw.full rfl (by simp)) .nil)) ?_
    simp only [hm, go_sem, ↓reduceIte]
  | done a' ms e hv hd hs ha hl ok st =>
    refine c_implAsmAdd hP (a := a) (d := d) (by omega) (by omega) bx (by omega) (vws_self _ _ rfl) (fun h3 => by rw [e] at h3; cases h3) (fun _ => ?_) (fun _ h0 => absurd (by rw [e]) h0)
    simp only [hm, go_sem, ↓reduceIte]
    refine c_specAsmAdd hP (a := a) (d := d) (by omega) (by omega) bx (by omega) (vws_self _ _ rfl) (fun h3 => by rw [e] at h3; cases h3) (fun _ => ?_)
    simp only [e, hm, go_sem, ↓reduceIte]
    refine call_flat (hP ▸ s_sameAsm a') rfl (.cons (vw_asm rfl rfl) (.cons (vw_asm rfl rfl) .nil)) ?_
    simp only [hm, go_sem, ↓reduceIte]
    refine call_flat (hP ▸ s_sameMessages ms) rfl (.cons (Vw.full rfl (by simp)) (.cons (Vw.full rfl (by simp)) .nil)) ?_
    simp only [hm, go_sem, ↓reduceIte]
    have hval := add_valid (a := a) (d := d) (by rw [e]; simp)
    rw [e] at hval
    obtain ⟨v1, v2⟩ := hval
    simp only at v1 v2
    obtain ⟨w1, w2, w3, w4⟩ := asm_ok v1
    have hwx : ∀ x ∈ a'.parts, x.text.length ≤ 9223372036854775807 := fun x hx => by have := (data_ok (w4 x hx).1).2.2.2.2; omega
    have hcall : ∀ {s : St} {K : AV → St → Prop} {va vd : AV}, Vws s.hp [va, vd] [a'.ro, d.av] → ((atIx a'.parts d.tsn).isSome = true → K (.tup [.agg [.sl s.nx 0 (asmAdd a' d).1.next.length, .sl (s.nx + 1) 0 (asmAdd a' d).1.parts.length], .r .nil, .i 1]) ⟨s.sl, (s.nx, .row 1 ((asmAdd a' d).1.next.map intRow)) :: (s.nx + 1, .row 7 ((asmAdd a' d).1.parts.map Data.row)) :: s.hp, s.nx + 2, s.gs⟩) →
        ((atIx a'.parts d.tsn) = none → K (.tup [.agg [.sl s.nx 0 (asmAdd a' d).1.next.length, .sl (s.nx + 1) 0 (asmAdd a' d).1.parts.length], .r .nil, .i 2]) ⟨s.sl, (s.nx, .row 1 ((asmAdd a' d).1.next.map intRow)) :: (s.nx + 1, .row 7 ((asmAdd a' d).1.parts.map Data.row)) :: s.hp, s.nx + 2, s.gs⟩) →
        ((atIx a'.parts d.tsn) = none → K (.tup [.agg [.sl s.nx 0 (asmAdd a' d).1.next.length, .sl (s.nx + 1) 0 (asmAdd a' d).1.parts.length], .sl (s.nx + 2) 0 (asmAdd a' d).2.1.length, .i 0]) ⟨s.sl, (s.nx, .row 1 ((asmAdd a' d).1.next.map intRow)) :: (s.nx + 1, .row 7 ((asmAdd a' d).1.parts.map Data.row)) :: (s.nx + 2, .row 4 ((asmAdd a' d).2.1.map Msg.row)) :: s.hp, s.nx + 3, s.gs⟩) → Call c 23 [va, vd] s K := by
      intro s K va vd hv' k1 k2 k0
      refine c_implAsmAdd hP (a := a') (d := d) (by omega) (by omega) hwx (by omega) hv' (fun h3 => ?_) (fun h0 => ?_) (fun h3 h0 => ?_)
      all_goals cases add_case a' d with
        | bad e2 hb2 => first | exact absurd ⟨v1, hd, by omega⟩ hb2
        | twice e2 _ _ _ ha2 => first | (rw [e2] at h3; cases h3; done) | (rw [e2] at h0; cases h0; done) | (have := k1 ha2; rw [e2] at this ⊢; exact this)
        | full e2 _ _ _ ha2 _ => first | (rw [e2] at h3; cases h3; done) | (rw [e2] at h0; cases h0; done) | (have := k2 ha2; rw [e2] at this ⊢; exact this)
        | done a2 ms2 e2 _ _ _ ha2 _ _ _ => first | (rw [e2] at h3; cases h3; done) | exact k0 ha2 | (rw [e2] at h0; exact absurd rfl h0)
    refine hcall (.cons (vw_asm rfl rfl) (.cons (vw_self _ _ rfl) .nil)) (fun hs2 => ?_) (fun hn2 => ?_) (fun hn2 => ?_)
    all_goals
      simp only [hm, go_sem, ↓reduceIte]
      refine call_flat (hP ▸ s_hasTsn a'.parts d.tsn (by omega)) rfl (.cons (Vw.full rfl (by simp)) (.cons (vw_self _ _ rfl) .nil)) ?_
    · simp only [hs2, hm, go_sem, ↓reduceIte]
    · simp only [hn2, Option.isSome_none, hm, go_sem, ↓reduceIte]
    · simp only [hn2, Option.isSome_none, hm, go_sem, ↓reduceIte]
end Go.Cap
