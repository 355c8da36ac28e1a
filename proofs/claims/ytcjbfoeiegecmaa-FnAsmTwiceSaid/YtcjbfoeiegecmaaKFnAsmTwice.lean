import Derived.Test.YtcjbfoeiegecmaaH1
/- FnAsmTwice: its contract. -/
namespace Go.Cap
open Go Go.Proofs
set_option maxRecDepth 100000
set_option linter.unusedSimpArgs false
set_option linter.unusedVariables false
attribute [local irreducible] Call Run Spec Le

theorem spec_FnAsmTwice {L : List (List RV)} (h : Okc (.sl [.i .u8]) (.ro none L)) : Spec Try.prog 12 0 [] [.r (.ro none L)] (fun r _ _ _ => r = .bo true) := by
  obtain ⟨code, rfl, hlen⟩ := bytes_of h
  have e : maxLen = 9223372036854775807 := by decide
  rw [e] at hlen
  refine mk12 rfl fun c hP hm => ?_
  unfold pc12
  simp only [hm, go_sem, ↓reduceIte]
  intro _ hcut
  refine call_plain (hP ▸ s_DrawAsmAdd code) rfl ?_
  rintro r ⟨a, d, rfl, ⟨b1, b2, b3⟩, b4⟩
  refine ⟨rfl, ?_⟩
  have bx : ∀ x ∈ a.parts, x.text.length ≤ 9223372036854775807 := fun x hx => by have := b3 x hx; omega
  simp only [Asm.ro, Data.av, hm, go_sem, ↓reduceIte]
  cases add_case a d with
  | bad e hb =>
    refine c_implAsmAdd hP (a := a) (d := d) (by omega) (by omega) bx (by omega) (vws_self _ _ rfl) (fun h3 => ?_) (fun h0 => by rw [e] at h0; cases h0) (fun h3 _ => absurd (by rw [e]) h3)
    simp only [hm, go_sem, ↓reduceIte]
    refine c_specAsmAdd hP (a := a) (d := d) (by omega) (by omega) bx (by omega) (vws_self _ _ rfl) (fun _ => ?_) (fun h => absurd h3 h)
    simp only [hm, go_sem, ↓reduceIte]
    refine call_flat (hP ▸ s_sameAsm ⟨[], []⟩) rfl (.cons (vw_agg (.cons Vw.nil (.cons Vw.nil .nil))) (.cons (vw_agg (.cons Vw.nil (.cons Vw.nil .nil))) .nil)) ?_
    simp only [hm, go_sem, ↓reduceIte]
    refine call_flat (hP ▸ s_sameMessages []) rfl (.cons Vw.nil (.cons (Vw.full rfl (by simp)) .nil)) ?_
    simp only [hm, go_sem, ↓reduceIte]
    refine call_flat (hP ▸ s_sameAsm ⟨[], []⟩) rfl (.cons (vw_agg (.cons Vw.nil (.cons Vw.nil .nil))) (.cons (vw_agg (.cons Vw.nil (.cons Vw.nil .nil))) .nil)) ?_
    simp only [hm, go_sem, ↓reduceIte]
    refine call_flat (hP ▸ s_sameMessages []) rfl (.cons Vw.nil (.cons (Vw.full rfl (by simp)) .nil)) ?_
    simp only [hm, go_sem, ↓reduceIte]
  | twice e hv hd hs ha =>
    refine c_implAsmAdd hP (a := a) (d := d) (by omega) (by omega) bx (by omega) (vws_self _ _ rfl) (fun h3 => by rw [e] at h3; cases h3) (fun h0 => by rw [e] at h0; cases h0) (fun _ _ => ?_)
    simp only [hm, go_sem, ↓reduceIte]
    refine c_specAsmAdd hP (a := a) (d := d) (by omega) (by omega) bx (by omega) (vws_self _ _ rfl) (fun h3 => by rw [e] at h3; cases h3) (fun _ => ?_)
    simp only [e, List.map_nil, List.length_nil, hm, go_sem, ↓reduceIte]
    refine call_flat (hP ▸ s_sameAsm a) rfl (.cons (vw_asm rfl rfl) (.cons (vw_asm rfl rfl) .nil)) ?_
    simp only [hm, go_sem, ↓reduceIte]
    refine call_flat (hP ▸ s_sameMessages []) rfl (.cons Vw.nil (.cons (Vw.full rfl (by simp)) .nil)) ?_
    simp only [hm, go_sem, ↓reduceIte]
    refine call_pure (hP ▸ s_hasTsn a.parts d.tsn (by omega)) rfl rfl ?_
    simp only [ha, hm, go_sem, ↓reduceIte]
    refine call_flat (hP ▸ s_sameAsm a) rfl (.cons (vw_asm rfl rfl) (.cons (vw_self _ _ rfl) .nil)) ?_
    simp only [hm, go_sem, ↓reduceIte]
  | full e hv hd hs ha hl =>
    refine c_implAsmAdd hP (a := a) (d := d) (by omega) (by omega) bx (by omega) (vws_self _ _ rfl) (fun h3 => by rw [e] at h3; cases h3) (fun h0 => by rw [e] at h0; cases h0) (fun _ _ => ?_)
    simp only [hm, go_sem, ↓reduceIte]
    refine c_specAsmAdd hP (a := a) (d := d) (by omega) (by omega) bx (by omega) (vws_self _ _ rfl) (fun h3 => by rw [e] at h3; cases h3) (fun _ => ?_)
    simp only [e, List.map_nil, List.length_nil, hm, go_sem, ↓reduceIte]
    refine call_flat (hP ▸ s_sameAsm a) rfl (.cons (vw_asm rfl rfl) (.cons (vw_asm rfl rfl) .nil)) ?_
    simp only [hm, go_sem, ↓reduceIte]
    refine call_flat (hP ▸ s_sameMessages []) rfl (.cons Vw.nil (.cons (Vw.full rfl (by simp)) .nil)) ?_
    simp only [hm, go_sem, ↓reduceIte]
    refine call_pure (hP ▸ s_hasTsn a.parts d.tsn (by omega)) rfl rfl ?_
    simp only [ha, Option.isSome_none, hm, go_sem, ↓reduceIte]
    refine call_flat (hP ▸ s_sameAsm a) rfl (.cons (vw_asm rfl rfl) (.cons (vw_self _ _ rfl) .nil)) ?_
    simp only [hm, go_sem, ↓reduceIte]
  | done a' ms e hv hd hs ha hl ok st =>
    refine c_implAsmAdd hP (a := a) (d := d) (by omega) (by omega) bx (by omega) (vws_self _ _ rfl) (fun h3 => by rw [e] at h3; cases h3) (fun _ => ?_) (fun _ h0 => absurd (by rw [e]) h0)
    simp only [hm, go_sem, ↓reduceIte]
    refine c_specAsmAdd hP (a := a) (d := d) (by omega) (by omega) bx (by omega) (vws_self _ _ rfl) (fun h3 => by rw [e] at h3; cases h3) (fun _ => ?_)
    simp only [e, hm, go_sem, ↓reduceIte]
    refine call_flat (hP ▸ s_sameAsm a') rfl (.cons (vw_asm rfl rfl) (.cons (vw_asm rfl rfl) .nil)) ?_
    simp only [hm, go_sem, ↓reduceIte]
    refine call_flat (hP ▸ s_sameMessages ms) rfl (.cons (Vw.full rfl (by simp)) (.cons (Vw.full rfl (by simp)) .nil)) ?_
    simp only [hm, go_sem, ↓reduceIte]
    refine call_pure (hP ▸ s_hasTsn a.parts d.tsn (by omega)) rfl rfl ?_
    simp only [ha, Option.isSome_none, hm, go_sem, ↓reduceIte]
end Go.Cap
