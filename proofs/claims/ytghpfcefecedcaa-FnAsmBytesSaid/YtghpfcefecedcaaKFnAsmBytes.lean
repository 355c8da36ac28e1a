import Derived.Test.YtghpfcefecedcaaLawB
/- FnAsmBytes: its contract. -/
namespace Go.Cap
open Go Go.Proofs
set_option maxRecDepth 100000
set_option linter.unusedSimpArgs false
set_option linter.unusedVariables false
attribute [local irreducible] Call Run Spec Le

theorem s_bytesOf (l : List Data) (ms : List Msg) (hl : l.length ≤ 2000000) (hn : ms.length ≤ 2000000) (hb : bytesD l + bytesM ms ≤ 1000000000) : Spec Try.prog 18 0 [] [.r (.ro none (l.map Data.row)), .r (.ro none (ms.map Msg.row))] (fun r _ _ _ => r = .i (bytesD l + bytesM ms : Nat)) := by
  refine mk18 rfl fun c hP hm => ?_
  unfold pc18
  simp only [hm, go_sem, ↓reduceIte]
  refine run_exit 0 (fun t0 => t0 = ⟨[(1, .r (.ro none (ms.map Msg.row))), (5, .i (bytesD l : Nat))], [], 0, []⟩) ?_ ?_
  · refine lp_wpc (α := Nat) (fun i => ⟨[(0, .r (.ro none (l.map Data.row))), (1, .r (.ro none (ms.map Msg.row))), (5, .i (bytesD (l.take i) : Nat)), (6, .i i)], [], 0, []⟩) (fun i => i ≤ l.length) (fun i => l.length - i) 0 (Nat.zero_le _) (by (refine le_ev [] ?_; simp only [hm, go_sem, ↓reduceIte]; first | done | rfl | exact ⟨rfl, rfl⟩)) ?_
    intro i hi
    unfold pc18l0
    rcases Nat.lt_or_ge i l.length with hil | hil
    · have hw : IntKind.i64.wrap ((i : Int) + 1) = ((i + 1 : Nat) : Int) := by rw [wrap64 (by omega) (by omega)]; omega
      have hg := getD_map (f := Data.row) hil
      have hm1 := bytesD_mono (l := l) (i + 1)
      have htk := bytesD_take hil
      generalize l[i] = d at hg htk
      have hw2 : IntKind.i64.wrap (((bytesD (l.take i) : Nat) : Int) + (d.text.length : Int)) = ((bytesD (l.take (i + 1)) : Nat) : Int) := by rw [wrap64 (by omega) (by omega)]; omega
      simp only [hw, hw2, Int.toNat_natCast, hg, Data.row, hm, go_sem, ↓reduceIte]
      repeat' first | refine And.intro ?_ ?_ | intro _
      all_goals first
        | omega
        | rfl
        | (refine ⟨i + 1, hil, by omega, ?_⟩; (refine le_ev [] ?_; simp only [hm, go_sem, ↓reduceIte]; first | done | rfl | exact ⟨rfl, rfl⟩))
    · have : i = l.length := by omega
      subst this
      simp only [hm, go_sem, ↓reduceIte]
      repeat' first | refine And.intro ?_ ?_ | intro _
      all_goals first
        | omega
        | (refine ⟨_, rfl, ?_⟩; rw [List.take_length]; (refine le_ev [] ?_; simp only [hm, go_sem, ↓reduceIte]; first | done | rfl | exact ⟨rfl, rfl⟩))
  rintro t0 rfl
  simp only [hm, go_sem, ↓reduceIte]
  refine lp_wpc (α := Nat) (fun i => ⟨[(1, .r (.ro none (ms.map Msg.row))), (5, .i (bytesD l + bytesM (ms.take i) : Nat)), (7, .i i)], [], 0, []⟩) (fun i => i ≤ ms.length) (fun i => ms.length - i) 0 (Nat.zero_le _) (by (refine le_ev [] ?_; simp only [hm, go_sem, ↓reduceIte]; first | done | rfl | exact ⟨rfl, rfl⟩)) ?_
  intro i hi
  unfold pc18l1
  rcases Nat.lt_or_ge i ms.length with hil | hil
  · have hw : IntKind.i64.wrap ((i : Int) + 1) = ((i + 1 : Nat) : Int) := by rw [wrap64 (by omega) (by omega)]; omega
    have hg := getD_map (f := Msg.row) hil
    have hm1 := bytesM_mono (l := ms) (i + 1)
    have htk := bytesM_take hil
    generalize ms[i] = d at hg htk
    have hw2 : IntKind.i64.wrap (((bytesD l + bytesM (ms.take i) : Nat) : Int) + (d.text.length : Int)) = ((bytesD l + bytesM (ms.take (i + 1)) : Nat) : Int) := by rw [wrap64 (by omega) (by omega)]; omega
    simp only [hw, hw2, Int.toNat_natCast, hg, Msg.row, hm, go_sem, ↓reduceIte]
    repeat' first | refine And.intro ?_ ?_ | intro _
    all_goals first
      | omega
      | rfl
      | (refine ⟨i + 1, hil, by omega, ?_⟩; (refine le_ev [] ?_; simp only [hm, go_sem, ↓reduceIte]; first | done | rfl | exact ⟨rfl, rfl⟩))
  · have : i = ms.length := by omega
    subst this
    simp only [List.take_length, hm, go_sem, ↓reduceIte]
    repeat' first | refine And.intro ?_ ?_ | intro _
    all_goals first
      | omega
      | rfl
theorem spec_FnAsmBytes {L : List (List RV)} (h : Okc (.sl [.i .u8]) (.ro none L)) : Spec Try.prog 3 0 [] [.r (.ro none L)] (fun r _ _ _ => r = .bo true) := by
  obtain ⟨code, rfl, hlen⟩ := bytes_of h
  have e : maxLen = 9223372036854775807 := by decide
  rw [e] at hlen
  refine mk3 rfl fun c hP hm => ?_
  unfold pc3
  simp only [hm, go_sem, ↓reduceIte]
  intro _ hcut
  refine call_plain (hP ▸ s_DrawAsmAdd code) rfl ?_
  rintro r ⟨a, d, rfl, ⟨b1, b2, b3⟩, b4⟩
  refine ⟨rfl, ?_⟩
  have bx : ∀ x ∈ a.parts, x.text.length ≤ 9223372036854775807 := fun x hx => by have := b3 x hx; omega
  simp only [Asm.ro, Data.av, hm, go_sem, ↓reduceIte]
  cases add_case a d with
  | bad e hb =>
    refine c_implAsmAdd hP (a := a) (d := d) (by omega) (by omega) bx (by omega) (vws_self _ _ rfl) (fun h3 => ?_) (fun h0 => by rw [e] at h0; cases h0) (fun h3 _ => absurd (by rw [e]) h3)
    simp only [hm, go_sem, ↓reduceIte]
    refine c_specAsmAdd hP (a := a) (d := d) (by omega) (by omega) bx (by omega) (vws_self _ _ rfl) (fun _ => ?_) (fun h => absurd h3 h)
    simp only [hm, go_sem, ↓reduceIte]
    refine call_flat (hP ▸ s_sameAsm ⟨[], []⟩) rfl (.cons (vw_agg (.cons Vw.nil (.cons Vw.nil .nil))) (.cons (vw_agg (.cons Vw.nil (.cons Vw.nil .nil))) .nil)) ?_
    simp only [hm, go_sem, ↓reduceIte]
    refine call_flat (hP ▸ s_sameMessages []) rfl (.cons Vw.nil (.cons (Vw.full rfl (by simp)) .nil)) ?_
    simp only [hm, go_sem, ↓reduceIte]
    refine call_flat (hP ▸ s_sameAsm ⟨[], []⟩) rfl (.cons (vw_agg (.cons Vw.nil (.cons Vw.nil .nil))) (.cons (vw_agg (.cons Vw.nil (.cons Vw.nil .nil))) .nil)) ?_
    simp only [hm, go_sem, ↓reduceIte]
    refine call_flat (hP ▸ s_sameMessages []) rfl (.cons Vw.nil (.cons (Vw.full rfl (by simp)) .nil)) ?_
    simp only [hm, go_sem, ↓reduceIte]
  | twice e hv hd hs ha =>
    refine c_implAsmAdd hP (a := a) (d := d) (by omega) (by omega) bx (by omega) (vws_self _ _ rfl) (fun h3 => by rw [e] at h3; cases h3) (fun h0 => by rw [e] at h0; cases h0) (fun _ _ => ?_)
    simp only [hm, go_sem, ↓reduceIte]
    refine c_specAsmAdd hP (a := a) (d := d) (by omega) (by omega) bx (by omega) (vws_self _ _ rfl) (fun h3 => by rw [e] at h3; cases h3) (fun _ => ?_)
    simp only [e, List.map_nil, List.length_nil, hm, go_sem, ↓reduceIte]
    refine call_flat (hP ▸ s_sameAsm a) rfl (.cons (vw_asm rfl rfl) (.cons (vw_asm rfl rfl) .nil)) ?_
    simp only [hm, go_sem, ↓reduceIte]
    refine call_flat (hP ▸ s_sameMessages []) rfl (.cons Vw.nil (.cons (Vw.full rfl (by simp)) .nil)) ?_
    simp only [hm, go_sem, ↓reduceIte]
    refine call_flat (hP ▸ s_sameAsm a) rfl (.cons (vw_asm rfl rfl) (.cons (vw_asm rfl rfl) .nil)) ?_
    simp only [hm, go_sem, ↓reduceIte]
    refine call_flat (hP ▸ s_sameMessages []) rfl (.cons Vw.nil (.cons (Vw.full rfl (by simp)) .nil)) ?_
    simp only [hm, go_sem, ↓reduceIte]
  | full e hv hd hs ha hl =>
    refine c_implAsmAdd hP (a := a) (d := d) (by omega) (by omega) bx (by omega) (vws_self _ _ rfl) (fun h3 => by rw [e] at h3; cases h3) (fun h0 => by rw [e] at h0; cases h0) (fun _ _ => ?_)
    simp only [hm, go_sem, ↓reduceIte]
    refine c_specAsmAdd hP (a := a) (d := d) (by omega) (by omega) bx (by omega) (vws_self _ _ rfl) (fun h3 => by rw [e] at h3; cases h3) (fun _ => ?_)
    simp only [e, List.map_nil, List.length_nil, hm, go_sem, ↓reduceIte]
    refine call_flat (hP ▸ s_sameAsm a) rfl (.cons (vw_asm rfl rfl) (.cons (vw_asm rfl rfl) .nil)) ?_
    simp only [hm, go_sem, ↓reduceIte]
    refine call_flat (hP ▸ s_sameMessages []) rfl (.cons Vw.nil (.cons (Vw.full rfl (by simp)) .nil)) ?_
    simp only [hm, go_sem, ↓reduceIte]
    refine call_flat (hP ▸ s_sameAsm a) rfl (.cons (vw_asm rfl rfl) (.cons (vw_asm rfl rfl) .nil)) ?_
    simp only [hm, go_sem, ↓reduceIte]
    refine call_flat (hP ▸ s_sameMessages []) rfl (.cons Vw.nil (.cons (Vw.full rfl (by simp)) .nil)) ?_
    simp only [hm, go_sem, ↓reduceIte]
  | done a' ms e hv hd hs ha hl ok st =>
    refine c_implAsmAdd hP (a := a) (d := d) (by omega) (by omega) bx (by omega) (vws_self _ _ rfl) (fun h3 => by rw [e] at h3; cases h3) (fun _ => ?_) (fun _ h0 => absurd (by rw [e]) h0)
    simp only [hm, go_sem, ↓reduceIte]
    refine c_specAsmAdd hP (a := a) (d := d) (by omega) (by omega) bx (by omega) (vws_self _ _ rfl) (fun h3 => by rw [e] at h3; cases h3) (fun _ => ?_)
    simp only [e, hm, go_sem, ↓reduceIte]
    refine call_flat (hP ▸ s_sameAsm a') rfl (.cons (vw_asm rfl rfl) (.cons (vw_asm rfl rfl) .nil)) ?_
    simp only [hm, go_sem, ↓reduceIte]
    refine call_flat (hP ▸ s_sameMessages ms) rfl (.cons (Vw.full rfl (by simp)) (.cons (Vw.full rfl (by simp)) .nil)) ?_
    simp only [hm, go_sem, ↓reduceIte]
    have hval := add_valid (a := a) (d := d) (by rw [e]; simp)
    rw [e] at hval
    obtain ⟨v1, v2⟩ := hval
    simp only at v1 v2
    obtain ⟨w1, w2, w3, w4⟩ := asm_ok v1
    have hwx : ∀ x ∈ a'.parts, x.text.length ≤ 9223372036854775807 := fun x hx => by have := (data_ok (w4 x hx).1).2.2.2.2; omega
    have hby := st.bytes
    rw [bytesD_app] at hby
    have hb1 : bytesD [d] = d.text.length := by simp [bytesD, sumN]
    have hb0 : bytesM [] = 0 := rfl
    rw [hb1, hb0] at hby
    have l1 : ms.length ≤ 13 := by have := (add_len a d (by rw [e])).1; rw [e] at this; exact this
    have hba : bytesD a.parts ≤ 200 * a.parts.length := bytesD_le b3
    have hc1 := s_bytesOf a'.parts ms (by omega) (by omega) (by omega)
    have hc2 := s_bytesOf a.parts [] (by omega) (by simp) (by rw [hb0]; omega)
    simp only [List.map_nil] at hc2
    have hw : IntKind.i64.wrap (((bytesD a.parts + bytesM [] : Nat) : Int) + (d.text.length : Int)) = ((bytesD a.parts + d.text.length : Nat) : Int) := by rw [hb0, wrap64 (by omega) (by omega)]; omega
    have hfin : ((bytesD a'.parts + bytesM ms : Nat) : Int) = ((bytesD a.parts + d.text.length : Nat) : Int) := by omega
    repeat' first | refine And.intro ?_ ?_ | intro _
    all_goals first
      | omega
      | rfl
      | (refine call_flat (hP ▸ hc1) rfl (.cons (Vw.full rfl (by simp)) (.cons (Vw.full rfl (by simp)) .nil)) ?_
         simp only [hm, go_sem, ↓reduceIte]
         repeat' first | refine And.intro ?_ ?_ | intro _
         all_goals first
           | omega
           | rfl
           | (refine call_flat (hP ▸ hc2) rfl (.cons (vw_self _ _ rfl) (.cons Vw.nil .nil)) ?_
              simp only [hw, hfin, beq_self_eq_true, hm, go_sem, ↓reduceIte])
           )
      | (refine call_flat (hP ▸ hc2) rfl (.cons (vw_self _ _ rfl) (.cons Vw.nil .nil)) ?_
         simp only [hm, go_sem, ↓reduceIte]
         repeat' first | refine And.intro ?_ ?_ | intro _
         all_goals first
           | omega
           | rfl
           | (refine call_flat (hP ▸ hc1) rfl (.cons (Vw.full rfl (by simp)) (.cons (Vw.full rfl (by simp)) .nil)) ?_
              simp only [hw, hfin, beq_self_eq_true, hm, go_sem, ↓reduceIte])
           )
end Go.Cap
