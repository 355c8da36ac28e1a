import Derived.Test.YtcjbfoeiegecmaaH2
/- FnAsmOrder: its contract. -/
namespace Go.Cap
open Go Go.Proofs
set_option maxRecDepth 100000
set_option linter.unusedSimpArgs false
set_option linter.unusedVariables false
attribute [local irreducible] Call Run Spec Le

theorem spec_FnAsmOrder {L : List (List RV)} (h : Okc (.sl [.i .u8]) (.ro none L)) : Spec Try.prog 14 0 [] [.r (.ro none L)] (fun r _ _ _ => r = .bo true) := by
  obtain ⟨code, rfl, hlen⟩ := bytes_of h
  have e : maxLen = 9223372036854775807 := by decide
  rw [e] at hlen
  refine mk14 rfl fun c hP hm => ?_
  unfold pc14
  simp only [hm, go_sem, ↓reduceIte]
  intro _ hcut
  refine call_plain (hP ▸ s_DrawAsmAdd code) rfl ?_
  rintro r ⟨a, d, rfl, ⟨b1, b2, b3⟩, b4⟩
  refine ⟨rfl, ?_⟩
  have bx : ∀ x ∈ a.parts, x.text.length ≤ 9223372036854775807 := fun x hx => by have := b3 x hx; omega
  simp only [Asm.ro, Data.av, hm, go_sem, ↓reduceIte]
  cases add_case a d with
  | bad e hb =>
    refine c_implAsmAdd hP (a := a) (d := d) (by omega) (by omega) bx (by omega) (vws_self _ _ rfl) (fun h3 => ?_) (fun h0 => by rw [e] at h0; cases h0) (fun h3 _ => absurd (by rw [e]) h3)
    simp only [hm, go_sem, ↓reduceIte]
    refine c_specAsmAdd hP (a := a) (d := d) (by omega) (by omega) bx (by omega) (vws_self _ _ rfl) (fun _ => ?_) (fun h => absurd h3 h)
    simp only [hm, go_sem, ↓reduceIte]
    refine call_flat (hP ▸ s_sameAsm ⟨[], []⟩) rfl (.cons (vw_agg (.cons Vw.nil (.cons Vw.nil .nil))) (.cons (vw_agg (.cons Vw.nil (.cons Vw.nil .nil))) .nil)) ?_
    simp only [hm, go_sem, ↓reduceIte]
    refine call_flat (hP ▸ s_sameMessages []) rfl (.cons Vw.nil (.cons (Vw.full rfl (by simp)) .nil)) ?_
    simp only [hm, go_sem, ↓reduceIte]
    refine call_flat (hP ▸ s_sameAsm ⟨[], []⟩) rfl (.cons (vw_agg (.cons Vw.nil (.cons Vw.nil .nil))) (.cons (vw_agg (.cons Vw.nil (.cons Vw.nil .nil))) .nil)) ?_
    simp only [hm, go_sem, ↓reduceIte]
    refine call_flat (hP ▸ s_sameMessages []) rfl (.cons Vw.nil (.cons (Vw.full rfl (by simp)) .nil)) ?_
    simp only [hm, go_sem, ↓reduceIte]
  | twice e hv hd hs ha =>
    refine c_implAsmAdd hP (a := a) (d := d) (by omega) (by omega) bx (by omega) (vws_self _ _ rfl) (fun h3 => by rw [e] at h3; cases h3) (fun h0 => by rw [e] at h0; cases h0) (fun _ _ => ?_)
    simp only [hm, go_sem, ↓reduceIte]
    refine c_specAsmAdd hP (a := a) (d := d) (by omega) (by omega) bx (by omega) (vws_self _ _ rfl) (fun h3 => by rw [e] at h3; cases h3) (fun _ => ?_)
    simp only [e, List.map_nil, List.length_nil, hm, go_sem, ↓reduceIte]
    refine call_flat (hP ▸ s_sameAsm a) rfl (.cons (vw_asm rfl rfl) (.cons (vw_asm rfl rfl) .nil)) ?_
    simp only [hm, go_sem, ↓reduceIte]
    refine call_flat (hP ▸ s_sameMessages []) rfl (.cons Vw.nil (.cons (Vw.full rfl (by simp)) .nil)) ?_
    simp only [hm, go_sem, ↓reduceIte]
    refine call_flat (hP ▸ s_sameAsm a) rfl (.cons (vw_asm rfl rfl) (.cons (vw_asm rfl rfl) .nil)) ?_
    simp only [hm, go_sem, ↓reduceIte]
    refine call_flat (hP ▸ s_sameMessages []) rfl (.cons Vw.nil (.cons (Vw.full rfl (by simp)) .nil)) ?_
    simp only [hm, go_sem, ↓reduceIte]
  | full e hv hd hs ha hl =>
    refine c_implAsmAdd hP (a := a) (d := d) (by omega) (by omega) bx (by omega) (vws_self _ _ rfl) (fun h3 => by rw [e] at h3; cases h3) (fun h0 => by rw [e] at h0; cases h0) (fun _ _ => ?_)
    simp only [hm, go_sem, ↓reduceIte]
    refine c_specAsmAdd hP (a := a) (d := d) (by omega) (by omega) bx (by omega) (vws_self _ _ rfl) (fun h3 => by rw [e] at h3; cases h3) (fun _ => ?_)
    simp only [e, List.map_nil, List.length_nil, hm, go_sem, ↓reduceIte]
    refine call_flat (hP ▸ s_sameAsm a) rfl (.cons (vw_asm rfl rfl) (.cons (vw_asm rfl rfl) .nil)) ?_
    simp only [hm, go_sem, ↓reduceIte]
    refine call_flat (hP ▸ s_sameMessages []) rfl (.cons Vw.nil (.cons (Vw.full rfl (by simp)) .nil)) ?_
    simp only [hm, go_sem, ↓reduceIte]
    refine call_flat (hP ▸ s_sameAsm a) rfl (.cons (vw_asm rfl rfl) (.cons (vw_asm rfl rfl) .nil)) ?_
    simp only [hm, go_sem, ↓reduceIte]
    refine call_flat (hP ▸ s_sameMessages []) rfl (.cons Vw.nil (.cons (Vw.full rfl (by simp)) .nil)) ?_
    simp only [hm, go_sem, ↓reduceIte]
  | done a' ms e hv hd hs ha hl ok st =>
    refine c_implAsmAdd hP (a := a) (d := d) (by omega) (by omega) bx (by omega) (vws_self _ _ rfl) (fun h3 => by rw [e] at h3; cases h3) (fun _ => ?_) (fun _ h0 => absurd (by rw [e]) h0)
    simp only [hm, go_sem, ↓reduceIte]
    refine c_specAsmAdd hP (a := a) (d := d) (by omega) (by omega) bx (by omega) (vws_self _ _ rfl) (fun h3 => by rw [e] at h3; cases h3) (fun _ => ?_)
    simp only [e, hm, go_sem, ↓reduceIte]
    refine call_flat (hP ▸ s_sameAsm a') rfl (.cons (vw_asm rfl rfl) (.cons (vw_asm rfl rfl) .nil)) ?_
    simp only [hm, go_sem, ↓reduceIte]
    refine call_flat (hP ▸ s_sameMessages ms) rfl (.cons (Vw.full rfl (by simp)) (.cons (Vw.full rfl (by simp)) .nil)) ?_
    simp only [hm, go_sem, ↓reduceIte]
    have hval := add_valid (a := a) (d := d) (by rw [e]; simp)
    rw [e] at hval
    obtain ⟨v1, v2⟩ := hval
    simp only at v1 v2
    obtain ⟨w1, w2, w3, w4⟩ := asm_ok v1
    have hwx : ∀ x ∈ a'.parts, x.text.length ≤ 9223372036854775807 := fun x hx => by have := (data_ok (w4 x hx).1).2.2.2.2; omega
    obtain ⟨t, ht, hnum⟩ := st.nums ok.next
    simp only [List.nil_append] at ht
    subst ht
    have hnl : a'.next.length = a.next.length := v2
    have l1 : ms.length ≤ 13 := by have := (add_len a d (by rw [e])).1; rw [e] at this; exact this
    refine lp_wpc (α := Nat) (fun i => ⟨[(3, .ptr 0 0 0), (6, .sl 1 0 ms.length), (11, .i i)], [(1, .row 4 (ms.map Msg.row)), (0, .var [.r (.ro none (a.next.map intRow)), .r (.ro none (a.parts.map Data.row))])], 2, []⟩)
      (fun i => i ≤ a.next.length) (fun i => a.next.length - i) 0 (Nat.zero_le _) (by (refine le_ev [(0, 0), (1, 4)] ?_; simp only [hm, go_sem, ↓reduceIte]; first | done | rfl | exact ⟨rfl, rfl⟩)) ?_
    intro i hi
    unfold pc14l1
    rcases Nat.lt_or_ge i a.next.length with hil | hil
    · have hw : IntKind.i64.wrap ((i : Int) + 1) = (i : Int) + 1 := wrap64 (by omega) (by omega)
      have hg1 : (a.next.map intRow).getD i [] = [.n .i64 (nextAt a i)] := by rw [getD_map hil]; unfold nextAt; rw [Int.toNat_natCast, List.getD_eq_getElem?_getD, List.getElem?_eq_getElem hil]; rfl
      have hser : serialB (nextAt a i) = true := ok.next _ (next_mem (a := a) (by omega) (by omega))
      obtain ⟨_, hx⟩ := hnum i (by omega) (by simp only; omega)
      have en : nextAt ⟨a.next, a.parts ++ [d]⟩ i = nextAt a i := rfl
      rw [en] at hx
      simp only [Int.toNat_natCast, hg1, hm, go_sem, ↓reduceIte]
      repeat' first | refine And.intro ?_ ?_ | intro _
      all_goals first
        | omega
        | rfl
        | (refine call_new1 (hP ▸ s_ofStream ms i (by omega)) rfl (msgClosed _) (.cons (Vw.full rfl (by simp)) (.cons (vw_self _ _ rfl) .nil)) ?_
           have hol := ofStr_len (i : Int) ms
           generalize ofStr (i : Int) ms = os at hx hol
           simp only [hm, go_sem, ↓reduceIte]
           refine lp_wpc (α := Nat) (fun k => ⟨[(3, .ptr 0 0 0), (6, .sl 1 0 ms.length), (11, .i i), (12, .sl 2 0 os.length), (13, .i k)], [(2, .row 4 (os.map Msg.row)), (1, .row 4 (ms.map Msg.row)), (0, .var [.r (.ro none (a.next.map intRow)), .r (.ro none (a.parts.map Data.row))])], 3, []⟩)
             (fun k => k ≤ os.length) (fun k => os.length - k) 0 (Nat.zero_le _) (by (refine le_ev [] ?_; simp only [hm, go_sem, ↓reduceIte]; first | done | rfl | exact ⟨rfl, rfl⟩)) ?_
           intro k hk
           unfold pc14l0
           rcases Nat.lt_or_ge k os.length with hkl | hkl
           · have hwk : IntKind.i64.wrap ((k : Int) + 1) = (k : Int) + 1 := wrap64 (by omega) (by omega)
             have hgk := getD_map (f := Msg.row) hkl
             have hsn := hx k hkl
             generalize os[k] = m at hgk hsn
             simp only [Int.toNat_natCast, hg1, hgk, Msg.row, hm, go_sem, ↓reduceIte]
             repeat' first | refine And.intro ?_ ?_ | intro _
             all_goals first
               | omega
               | rfl
               | (refine call_pure (hP ▸ s_SerialAdd1 (nextAt a i) _ hser) rfl rfl ?_
                  simp only [Int.toNat_natCast, hg1, hgk, Msg.row, hsn, hm, go_sem, ↓reduceIte]
                  repeat' first | refine And.intro ?_ ?_ | intro _
                  all_goals first
                    | omega
                    | rfl
                    | (refine ⟨k + 1, hkl, by omega, ?_⟩
                       rw [hwk]
                       (refine le_ev [] ?_; simp only [hm, go_sem, ↓reduceIte]; first | done | rfl | exact ⟨rfl, rfl⟩))
                    )
           · have : k = os.length := by omega
             subst this
             simp only [hm, go_sem, ↓reduceIte]
             repeat' first | refine And.intro ?_ ?_ | intro _
             all_goals first
               | omega
               | rfl
               | (exfalso; omega)
               | (refine ⟨i + 1, hil, by omega, ?_⟩
                  rw [hw]
                  (refine le_ev [] ?_; simp only [hm, go_sem, ↓reduceIte]; first | done | rfl | exact ⟨rfl, rfl⟩))
               )
    · have : i = a.next.length := by omega
      subst this
      simp only [hm, go_sem, ↓reduceIte]
      repeat' first | refine And.intro ?_ ?_ | intro _
      all_goals first
        | omega
        | rfl
        | (exfalso; omega)
end Go.Cap
