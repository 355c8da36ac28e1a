import Derived.Test.YtcjbfoeiegecmaaH1
/- FnAsmAdd: its contract. -/
namespace Go.Cap
open Go Go.Proofs
set_option maxRecDepth 100000
set_option linter.unusedSimpArgs false
set_option linter.unusedVariables false
attribute [local irreducible] Call Run Spec Le

theorem spec_FnAsmAdd {L : List (List RV)} (h : Okc (.sl [.i .u8]) (.ro none L)) : Spec Try.prog 10 0 [] [.r (.ro none L)] (fun r _ _ _ => r = .bo true) := by
  obtain ⟨code, rfl, hlen⟩ := bytes_of h
  have e : maxLen = 9223372036854775807 := by decide
  rw [e] at hlen
  refine mk10 rfl fun c hP hm => ?_
  unfold pc10
  simp only [hm, go_sem, ↓reduceIte]
  intro _ hcut
  refine call_plain (hP ▸ s_DrawAsmAdd code) rfl ?_
  rintro r ⟨a, d, rfl, ⟨b1, b2, b3⟩, b4⟩
  refine ⟨rfl, ?_⟩
  have bx : ∀ x ∈ a.parts, x.text.length ≤ 9223372036854775807 := fun x hx => by have := b3 x hx; omega
  simp only [Asm.ro, Data.av, hm, go_sem, ↓reduceIte]
  cases add_case a d with
  | bad e hb =>
    refine c_implAsmAdd hP (a := a) (d := d) (by omega) (by omega) bx (by omega) (vws_self _ _ rfl) (fun h3 => ?_) (fun h0 => by rw [e] at h0; cases h0) (fun h3 _ => absurd (by rw [e]) h3)
    simp only [hm, go_sem, ↓reduceIte]
    refine c_specAsmAdd hP (a := a) (d := d) (by omega) (by omega) bx (by omega) (vws_self _ _ rfl) (fun _ => ?_) (fun h => absurd h3 h)
    simp only [hm, go_sem, ↓reduceIte]
    refine call_flat (hP ▸ s_sameAsm ⟨[], []⟩) rfl (.cons (vw_agg (.cons Vw.nil (.cons Vw.nil .nil))) (.cons (vw_agg (.cons Vw.nil (.cons Vw.nil .nil))) .nil)) ?_
    simp only [hm, go_sem, ↓reduceIte]
    refine call_flat (hP ▸ s_sameMessages []) rfl (.cons Vw.nil (.cons (Vw.full rfl (by simp)) .nil)) ?_
    simp only [hm, go_sem, ↓reduceIte]
    refine call_flat (hP ▸ s_sameAsm ⟨[], []⟩) rfl (.cons (vw_agg (.cons Vw.nil (.cons Vw.nil .nil))) (.cons (vw_agg (.cons Vw.nil (.cons Vw.nil .nil))) .nil)) ?_
    simp only [hm, go_sem, ↓reduceIte]
    refine call_flat (hP ▸ s_sameMessages []) rfl (.cons Vw.nil (.cons (Vw.full rfl (by simp)) .nil)) ?_
    simp only [hm, go_sem, ↓reduceIte]
  | twice e hv hd hs ha =>
    refine c_implAsmAdd hP (a := a) (d := d) (by omega) (by omega) bx (by omega) (vws_self _ _ rfl) (fun h3 => by rw [e] at h3; cases h3) (fun h0 => by rw [e] at h0; cases h0) (fun _ _ => ?_)
    simp only [hm, go_sem, ↓reduceIte]
    refine c_specAsmAdd hP (a := a) (d := d) (by omega) (by omega) bx (by omega) (vws_self _ _ rfl) (fun h3 => by rw [e] at h3; cases h3) (fun _ => ?_)
    simp only [e, List.map_nil, List.length_nil, hm, go_sem, ↓reduceIte]
    refine call_flat (hP ▸ s_sameAsm a) rfl (.cons (vw_asm rfl rfl) (.cons (vw_asm rfl rfl) .nil)) ?_
    simp only [hm, go_sem, ↓reduceIte]
    refine call_flat (hP ▸ s_sameMessages []) rfl (.cons Vw.nil (.cons (Vw.full rfl (by simp)) .nil)) ?_
    simp only [hm, go_sem, ↓reduceIte]
    refine call_flat (hP ▸ s_sameAsm a) rfl (.cons (vw_asm rfl rfl) (.cons (vw_asm rfl rfl) .nil)) ?_
    simp only [hm, go_sem, ↓reduceIte]
    refine call_flat (hP ▸ s_sameMessages []) rfl (.cons Vw.nil (.cons (Vw.full rfl (by simp)) .nil)) ?_
    simp only [hm, go_sem, ↓reduceIte]
  | full e hv hd hs ha hl =>
    refine c_implAsmAdd hP (a := a) (d := d) (by omega) (by omega) bx (by omega) (vws_self _ _ rfl) (fun h3 => by rw [e] at h3; cases h3) (fun h0 => by rw [e] at h0; cases h0) (fun _ _ => ?_)
    simp only [hm, go_sem, ↓reduceIte]
    refine c_specAsmAdd hP (a := a) (d := d) (by omega) (by omega) bx (by omega) (vws_self _ _ rfl) (fun h3 => by rw [e] at h3; cases h3) (fun _ => ?_)
    simp only [e, List.map_nil, List.length_nil, hm, go_sem, ↓reduceIte]
    refine call_flat (hP ▸ s_sameAsm a) rfl (.cons (vw_asm rfl rfl) (.cons (vw_asm rfl rfl) .nil)) ?_
    simp only [hm, go_sem, ↓reduceIte]
    refine call_flat (hP ▸ s_sameMessages []) rfl (.cons Vw.nil (.cons (Vw.full rfl (by simp)) .nil)) ?_
    simp only [hm, go_sem, ↓reduceIte]
    refine call_flat (hP ▸ s_sameAsm a) rfl (.cons (vw_asm rfl rfl) (.cons (vw_asm rfl rfl) .nil)) ?_
    simp only [hm, go_sem, ↓reduceIte]
    refine call_flat (hP ▸ s_sameMessages []) rfl (.cons Vw.nil (.cons (Vw.full rfl (by simp)) .nil)) ?_
    simp only [hm, go_sem, ↓reduceIte]
  | done a' ms e hv hd hs ha hl ok st =>
    refine c_implAsmAdd hP (a := a) (d := d) (by omega) (by omega) bx (by omega) (vws_self _ _ rfl) (fun h3 => by rw [e] at h3; cases h3) (fun _ => ?_) (fun _ h0 => absurd (by rw [e]) h0)
    simp only [hm, go_sem, ↓reduceIte]
    refine c_specAsmAdd hP (a := a) (d := d) (by omega) (by omega) bx (by omega) (vws_self _ _ rfl) (fun h3 => by rw [e] at h3; cases h3) (fun _ => ?_)
    simp only [e, hm, go_sem, ↓reduceIte]
    refine call_flat (hP ▸ s_sameAsm a') rfl (.cons (vw_asm rfl rfl) (.cons (vw_asm rfl rfl) .nil)) ?_
    simp only [hm, go_sem, ↓reduceIte]
    refine call_flat (hP ▸ s_sameMessages ms) rfl (.cons (Vw.full rfl (by simp)) (.cons (Vw.full rfl (by simp)) .nil)) ?_
    simp only [hm, go_sem, ↓reduceIte]
    have hval := add_valid (a := a) (d := d) (by rw [e]; simp)
    rw [e] at hval
    obtain ⟨v1, v2⟩ := hval
    simp only at v1 v2
    obtain ⟨w1, w2, w3, w4⟩ := asm_ok v1
    have hwx : ∀ x ∈ a'.parts, x.text.length ≤ 9223372036854775807 := fun x hx => by have := (data_ok (w4 x hx).1).2.2.2.2; omega
    refine call_flat (hP ▸ s_implAsmValid a' (by omega) (by omega) hwx) rfl (.cons (vw_asm rfl rfl) .nil) ?_
    simp only [v1, hm, go_sem, ↓reduceIte]
    refine call_flat (hP ▸ s_hasTsn a'.parts d.tsn (by omega)) rfl (.cons (Vw.full rfl (by simp)) (.cons (vw_self _ _ rfl) .nil)) ?_
    obtain ⟨t, ht, hnil⟩ := st.more
    simp only [List.nil_append] at ht
    subst ht
    cases hat : (atIx a'.parts d.tsn).isSome
    · simp only [hm, go_sem, ↓reduceIte]
      intro _
      rw [decide_eq_true]
      cases ms with
      | nil =>
        exfalso
        have := hnil rfl
        subst this
        rw [Option.isSome_eq_false_iff, Option.isNone_iff_eq_none] at hat
        exact (atIx_none _ _).1 hat d (by simp) rfl
      | cons m ms => simp only [List.length_cons]; omega
    · simp only [hm, go_sem, ↓reduceIte]
end Go.Cap
