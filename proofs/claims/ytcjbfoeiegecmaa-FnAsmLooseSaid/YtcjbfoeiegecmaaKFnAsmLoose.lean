import Derived.Test.YtcjbfoeiegecmaaH1
/- FnAsmLoose: its contract. -/
namespace Go.Cap
open Go Go.Proofs
set_option maxRecDepth 100000
set_option linter.unusedSimpArgs false
set_option linter.unusedVariables false
attribute [local irreducible] Call Run Spec Le

theorem spec_FnAsmLoose {L : List (List RV)} (h : Okc (.sl [.i .u8]) (.ro none L)) : Spec Try.prog 8 0 [] [.r (.ro none L)] (fun r _ _ _ => r = .bo true) := by
  obtain ⟨code, rfl, hlen⟩ := bytes_of h
  have e : maxLen = 9223372036854775807 := by decide
  rw [e] at hlen
  refine mk8 rfl fun c hP hm => ?_
  unfold pc8
  simp only [hm, go_sem, ↓reduceIte]
  intro _ hcut
  refine call_plain (hP ▸ s_DrawAsmAdd code) rfl ?_
  rintro r ⟨a, d, rfl, ⟨b1, b2, b3⟩, b4⟩
  refine ⟨rfl, ?_⟩
  have bx : ∀ x ∈ a.parts, x.text.length ≤ 9223372036854775807 := fun x hx => by have := b3 x hx; omega
  simp only [Asm.ro, Data.av, hm, go_sem, ↓reduceIte]
  cases add_case a d with
  | bad e hb =>
    refine c_implAsmAdd hP (a := a) (d := d) (by omega) (by omega) bx (by omega) (vws_self _ _ rfl) (fun h3 => ?_) (fun h0 => by rw [e] at h0; cases h0) (fun h3 _ => absurd (by rw [e]) h3)
    simp only [hm, go_sem, ↓reduceIte]
    refine c_specAsmAdd hP (a := a) (d := d) (by omega) (by omega) bx (by omega) (vws_self _ _ rfl) (fun _ => ?_) (fun h => absurd h3 h)
    simp only [hm, go_sem, ↓reduceIte]
    refine call_flat (hP ▸ s_sameAsm ⟨[], []⟩) rfl (.cons (vw_agg (.cons Vw.nil (.cons Vw.nil .nil))) (.cons (vw_agg (.cons Vw.nil (.cons Vw.nil .nil))) .nil)) ?_
    simp only [hm, go_sem, ↓reduceIte]
    refine call_flat (hP ▸ s_sameMessages []) rfl (.cons Vw.nil (.cons (Vw.full rfl (by simp)) .nil)) ?_
    simp only [hm, go_sem, ↓reduceIte]
    refine call_flat (hP ▸ s_sameAsm ⟨[], []⟩) rfl (.cons (vw_agg (.cons Vw.nil (.cons Vw.nil .nil))) (.cons (vw_agg (.cons Vw.nil (.cons Vw.nil .nil))) .nil)) ?_
    simp only [hm, go_sem, ↓reduceIte]
    refine call_flat (hP ▸ s_sameMessages []) rfl (.cons Vw.nil (.cons (Vw.full rfl (by simp)) .nil)) ?_
    simp only [hm, go_sem, ↓reduceIte]
  | twice e hv hd hs ha =>
    refine c_implAsmAdd hP (a := a) (d := d) (by omega) (by omega) bx (by omega) (vws_self _ _ rfl) (fun h3 => by rw [e] at h3; cases h3) (fun h0 => by rw [e] at h0; cases h0) (fun _ _ => ?_)
    simp only [hm, go_sem, ↓reduceIte]
    refine c_specAsmAdd hP (a := a) (d := d) (by omega) (by omega) bx (by omega) (vws_self _ _ rfl) (fun h3 => by rw [e] at h3; cases h3) (fun _ => ?_)
    simp only [e, List.map_nil, List.length_nil, hm, go_sem, ↓reduceIte]
    refine call_flat (hP ▸ s_sameAsm a) rfl (.cons (vw_asm rfl rfl) (.cons (vw_asm rfl rfl) .nil)) ?_
    simp only [hm, go_sem, ↓reduceIte]
    refine call_flat (hP ▸ s_sameMessages []) rfl (.cons Vw.nil (.cons (Vw.full rfl (by simp)) .nil)) ?_
    simp only [hm, go_sem, ↓reduceIte]
    refine call_flat (hP ▸ s_sameAsm a) rfl (.cons (vw_asm rfl rfl) (.cons (vw_asm rfl rfl) .nil)) ?_
    simp only [hm, go_sem, ↓reduceIte]
    refine call_flat (hP ▸ s_sameMessages []) rfl (.cons Vw.nil (.cons (Vw.full rfl (by simp)) .nil)) ?_
    simp only [hm, go_sem, ↓reduceIte]
  | full e hv hd hs ha hl =>
    refine c_implAsmAdd hP (a := a) (d := d) (by omega) (by omega) bx (by omega) (vws_self _ _ rfl) (fun h3 => by rw [e] at h3; cases h3) (fun h0 => by rw [e] at h0; cases h0) (fun _ _ => ?_)
    simp only [hm, go_sem, ↓reduceIte]
    refine c_specAsmAdd hP (a := a) (d := d) (by omega) (by omega) bx (by omega) (vws_self _ _ rfl) (fun h3 => by rw [e] at h3; cases h3) (fun _ => ?_)
    simp only [e, List.map_nil, List.length_nil, hm, go_sem, ↓reduceIte]
    refine call_flat (hP ▸ s_sameAsm a) rfl (.cons (vw_asm rfl rfl) (.cons (vw_asm rfl rfl) .nil)) ?_
    simp only [hm, go_sem, ↓reduceIte]
    refine call_flat (hP ▸ s_sameMessages []) rfl (.cons Vw.nil (.cons (Vw.full rfl (by simp)) .nil)) ?_
    simp only [hm, go_sem, ↓reduceIte]
    refine call_flat (hP ▸ s_sameAsm a) rfl (.cons (vw_asm rfl rfl) (.cons (vw_asm rfl rfl) .nil)) ?_
    simp only [hm, go_sem, ↓reduceIte]
    refine call_flat (hP ▸ s_sameMessages []) rfl (.cons Vw.nil (.cons (Vw.full rfl (by simp)) .nil)) ?_
    simp only [hm, go_sem, ↓reduceIte]
  | done a' ms e hv hd hs ha hl ok st =>
    refine c_implAsmAdd hP (a := a) (d := d) (by omega) (by omega) bx (by omega) (vws_self _ _ rfl) (fun h3 => by rw [e] at h3; cases h3) (fun _ => ?_) (fun _ h0 => absurd (by rw [e]) h0)
    simp only [hm, go_sem, ↓reduceIte]
    refine c_specAsmAdd hP (a := a) (d := d) (by omega) (by omega) bx (by omega) (vws_self _ _ rfl) (fun h3 => by rw [e] at h3; cases h3) (fun _ => ?_)
    simp only [e, hm, go_sem, ↓reduceIte]
    refine call_flat (hP ▸ s_sameAsm a') rfl (.cons (vw_asm rfl rfl) (.cons (vw_asm rfl rfl) .nil)) ?_
    simp only [hm, go_sem, ↓reduceIte]
    refine call_flat (hP ▸ s_sameMessages ms) rfl (.cons (Vw.full rfl (by simp)) (.cons (Vw.full rfl (by simp)) .nil)) ?_
    simp only [hm, go_sem, ↓reduceIte]
    cases hf : d.first
    · simp only [hm, go_sem, ↓reduceIte]
      refine call_flat (hP ▸ s_sameAsm a') rfl (.cons (vw_asm rfl rfl) (.cons (vw_asm rfl rfl) .nil)) ?_
      simp only [hm, go_sem, ↓reduceIte]
      refine call_flat (hP ▸ s_sameMessages ms) rfl (.cons (Vw.full rfl (by simp)) (.cons (Vw.full rfl (by simp)) .nil)) ?_
      simp only [hm, go_sem, ↓reduceIte]
    cases hla : d.last
    · simp only [hm, go_sem, ↓reduceIte]
      refine call_flat (hP ▸ s_sameAsm a') rfl (.cons (vw_asm rfl rfl) (.cons (vw_asm rfl rfl) .nil)) ?_
      simp only [hm, go_sem, ↓reduceIte]
      refine call_flat (hP ▸ s_sameMessages ms) rfl (.cons (Vw.full rfl (by simp)) (.cons (Vw.full rfl (by simp)) .nil)) ?_
      simp only [hm, go_sem, ↓reduceIte]
    cases hlo : d.loose
    · simp only [hm, go_sem, ↓reduceIte]
      refine call_flat (hP ▸ s_sameAsm a') rfl (.cons (vw_asm rfl rfl) (.cons (vw_asm rfl rfl) .nil)) ?_
      simp only [hm, go_sem, ↓reduceIte]
      refine call_flat (hP ▸ s_sameMessages ms) rfl (.cons (Vw.full rfl (by simp)) (.cons (Vw.full rfl (by simp)) .nil)) ?_
      simp only [hm, go_sem, ↓reduceIte]
    simp only [hm, go_sem, ↓reduceIte]
    have hin := st.loose hf hla hlo (add_val (asm_val.1 hv).1 hd hs ha).nd (by simp)
    obtain ⟨l1, _, _, _⟩ := add_len a d (by rw [e])
    rw [e] at l1
    simp only at l1
    refine lp_wpc (α := Nat) (fun i => ⟨[(4, .ptr 0 0 0), (6, .sl 1 0 ms.length), (11, .i i)], [(1, .row 4 (ms.map Msg.row)), (0, .var [.i d.tsn, .i d.stream, .i d.ssn, .bo true, .bo true, .bo true, .st d.text])], 2, []⟩)
      (fun i => i ≤ ms.length ∧ ∀ m ∈ ms.take i, m ≠ ⟨d.stream, d.ssn, true, d.text⟩) (fun i => ms.length - i) 0 ⟨Nat.zero_le _, fun m hm => by simp at hm⟩ (by (refine le_ev [(0, 1), (1, 4)] ?_; simp only [hm, go_sem, ↓reduceIte]; first | done | rfl | exact ⟨rfl, rfl⟩)) ?_
    rintro i ⟨hi, hI⟩
    unfold pc8l0
    rcases Nat.lt_or_ge i ms.length with hil | hil
    · have hgm := getD_map (f := Msg.row) hil
      have htk := take_get hil
      generalize ms[i] = m at hgm htk
      have hw : IntKind.i64.wrap ((i : Int) + 1) = (i : Int) + 1 := wrap64 (by omega) (by omega)
      simp only [Int.toNat_natCast, hgm, Msg.row, hm, go_sem, ↓reduceIte]
      repeat' first | refine And.intro ?_ ?_ | intro _
      all_goals first
        | omega
        | rfl
        | (refine ⟨i + 1, ⟨hil, fun x hx => ?_⟩, by omega, by rw [hw]; (refine le_ev [] ?_; simp only [hm, go_sem, ↓reduceIte]; first | done | rfl | exact ⟨rfl, rfl⟩)⟩
           rw [htk] at hx
           rcases List.mem_append.1 hx with hx | hx
           · exact hI x hx
           · simp only [List.mem_singleton] at hx
             subst hx
             intro hxe
             obtain ⟨e1, e2, e3, e4⟩ := Msg.mk.inj hxe
             rename_i hcmp
             rw [e1, e2, e3, e4] at hcmp
             simp at hcmp)
    · have : i = ms.length := by omega
      subst this
      rw [List.take_length] at hI
      exact absurd rfl (hI _ hin)
end Go.Cap
