import Derived.Test.YtpkemdacmcjgmaaP2
import Derived.Test.YtpkemdacmcjgmaaR3
import Derived.Test.YtpkemdacmcjgmaaEngC
/- Contracts: the laws' helpers on parts. -/
namespace Go.Cap
open Go Go.Proofs
set_option maxRecDepth 100000
set_option linter.unusedSimpArgs false
set_option linter.unusedVariables false
attribute [local irreducible] Call Run Spec Le

theorem byte_of (r : List RV) (h : RowOk [.i .u8] r) : ∃ b : UInt8, r = byteRow b ∧ True := by
  obtain ⟨x0, r, rfl, h0, h⟩ := rowOk_cons h
  obtain rfl := rowOk_nil h
  obtain ⟨n, rfl, hn⟩ := okc_i h0
  have h8 := wf_u8 hn
  refine ⟨UInt8.ofNat n.toNat, ?_, trivial⟩
  have : ((UInt8.ofNat n.toNat).toNat : Int) = n := by
    rw [UInt8.toNat_ofNat']; omega
  simp only [byteRow, this]
theorem bytes_of {L : List (List RV)} (h : Okc (.sl [.i .u8]) (.ro none L)) : ∃ code : List UInt8, L = code.map byteRow ∧ code.length ≤ maxLen := by
  obtain ⟨L', e, hL, hrows⟩ := okc_sl h
  injection e with _ e
  subst e
  obtain ⟨l, rfl, _⟩ := rows_of byte_of hrows
  exact ⟨l, rfl, by simpa using hL⟩

theorem s_implTalkParts1 (t : Talk) (byB : Bool) (hl : t.says.length ≤ 1048576) (hv : talkB t = true) : Spec Try.prog 25 0 [] [t.ro, .bo byB] (New1 (.sl 0 0 (talkParts t byB).length) 7 ((talkParts t byB).map Data.row)) := by
  have := s_implTalkParts t byB hl; rwa [if_pos hv] at this
theorem s_implTalkParts0 (t : Talk) (byB : Bool) (hl : t.says.length ≤ 1048576) (hv : ¬ talkB t = true) : Spec Try.prog 25 0 [] [t.ro, .bo byB] (fun r _ _ _ => r = .r .nil) := by
  have := s_implTalkParts t byB hl; rwa [if_neg hv] at this
theorem talkParts_bad {t : Talk} {byB : Bool} (hv : ¬ talkB t = true) : talkParts t byB = [] := by unfold talkParts; rw [if_neg hv]
theorem s_sameParts (l : List Data) : Spec Try.prog 27 0 [] [.r (.ro none (l.map Data.row)), .r (.ro none (l.map Data.row))] (fun r _ _ _ => r = .bo true) := by
  refine mk27 rfl fun c hP hm => ?_
  unfold pc27
  simp only [go_sem, ↓reduceIte]
  intro hlen _
  refine lp_wpc (α := Nat) (fun i => ⟨[(0, .r (.ro none (l.map Data.row))), (1, .r (.ro none (l.map Data.row))), (5, .i i)], [], 0, []⟩) (fun i => i ≤ l.length) (fun i => l.length - i) 0 (Nat.zero_le _) (Le.refl _) ?_
  intro i hi
  unfold pc27l0
  simp only [go_sem, ↓reduceIte]
  intro _
  intro hlt
  have hil : i < l.length := by omega
  simp only [Int.toNat_natCast, getD_map hil, Data.row, go_sem, ↓reduceIte]
  rw [wrap64 (by omega) (by omega)]
  exact ⟨⟨by omega, by omega⟩, ⟨by omega, by omega⟩, i + 1, hil, by omega, Le.refl _⟩
theorem s_sameParts_nil : Spec Try.prog 27 0 [] [.r .nil, .r (.ro none [])] (fun r _ _ _ => r = .bo true) := by
  refine mk27 rfl fun c hP hm => ?_
  unfold pc27
  simp only [go_sem, ↓reduceIte]
  refine lp_wpc (α := Unit) (fun _ => ⟨[(0, .r .nil), (1, .r (.ro none [])), (5, .i 0)], [], 0, []⟩) (fun _ => True) (fun _ => 0) () trivial (Le.refl _) ?_
  intro i hi
  unfold pc27l0
  simp only [go_sem, ↓reduceIte]
def textOf (byB : Bool) (l : List Say) : List UInt8 := l.flatMap fun s => if s.byB = byB then s.text else []
theorem textOf_len (byB : Bool) : ∀ (l : List Say), (∀ s ∈ l, s.text.length ≤ 1000) → (textOf byB l).length ≤ 1000 * l.length
  | [], _ => by simp [textOf]
  | s :: l, h => by
    have ih := textOf_len byB l (fun x hx => h x (List.mem_cons_of_mem _ hx))
    have h1 := h s (List.mem_cons_self ..)
    unfold textOf at ih ⊢
    rw [List.flatMap_cons, List.length_append, List.length_cons]
    split
    · omega
    · simp only [List.length_nil]; omega
theorem s_textOf (t : Talk) (byB : Bool) (hl : t.says.length ≤ 1000) (hx : ∀ s ∈ t.says, s.text.length ≤ 1000) : Spec Try.prog 29 0 [] [t.ro, .bo byB] (fun r _ _ _ => r = .st (textOf byB t.says)) := by
  refine mk29 rfl fun c hP hm => ?_
  unfold pc29 Talk.ro Talk.av
  simp only [go_sem, ↓reduceIte]
  refine run_exit 0 (fun t0 => t0 = ⟨[(5, .st (textOf byB t.says))], [], 1, []⟩) ?_ (fun t0 h => by rw [h]; simp only [go_sem, ↓reduceIte])
  refine lp_wpc (α := Nat) (fun i => ⟨[(1, .bo byB), (2, .ptr 0 0 0), (5, .st (textOf byB (t.says.take i))), (6, .i i)], [(0, .var [.i t.fr, .i t.to, .i t.a.tag, .i t.a.window, .i t.a.streams, .i t.a.tsn, .i t.b.tag, .i t.b.window, .i t.b.streams, .i t.b.tsn, .i t.size, .r (.ro none (t.says.map Say.row))])], 1, []⟩) (fun i => i ≤ t.says.length) (fun i => t.says.length - i) 0 (Nat.zero_le _) (le_eq (by simp [textOf])) ?_
  intro i hi
  unfold pc29l0
  simp only [go_sem, ↓reduceIte]
  intro _
  refine ⟨fun hlt => ?_, fun hge => ?_⟩
  · have hil : i < t.says.length := by omega
    have e : textOf byB (t.says.take (i + 1)) = textOf byB (t.says.take i) ++ if t.says[i].byB = byB then t.says[i].text else [] := by
      unfold textOf; rw [take_get hil, List.flatMap_append, List.flatMap_cons, List.flatMap_nil, List.append_nil]
    simp only [Int.toNat_natCast, getD_map hil, Say.row, go_sem, ↓reduceIte]
    rw [wrap64 (by omega) (by omega)]
    refine ⟨⟨by omega, by omega⟩, fun hb => ?_, fun hb => ?_⟩
    · rw [if_pos hb] at e
      have hlen := textOf_len byB (t.says.take i) (fun s hs => hx s (List.mem_of_mem_take hs))
      have hh := hx _ (List.getElem_mem hil)
      have : (t.says.take i).length ≤ t.says.length := by rw [List.length_take]; omega
      refine ⟨⟨by omega, by omega⟩, by omega, ?_⟩
      rw [← e]
      exact ⟨i + 1, hil, by omega, Le.refl _⟩
    · rw [if_neg hb, List.append_nil] at e
      rw [← e]
      exact ⟨i + 1, hil, by omega, Le.refl _⟩
  · have : i = t.says.length := by omega
    subst this
    rw [List.take_length]
    exact ⟨_, rfl, le_ev [] (by simp only [hm, go_sem, ↓reduceIte, Nat.reduceLeDiff])⟩
theorem mid_get {α : Type} {A B : List α} {d x : α} {i : Nat} (h : A.length = i) : (A ++ x :: B).getD i d = x := by
  rw [List.getD_eq_getElem?_getD, List.getElem?_append_right (by omega), h, Nat.sub_self]; rfl
theorem mid_set {α : Type} {A B : List α} {x y : α} {i : Nat} (h : A.length = i) : (A ++ x :: B).set i y = A ++ y :: B := by
  rw [List.set_append_right _ _ (by omega), h, Nat.sub_self]; rfl
theorem mid_len {α : Type} (A B : List α) (x : α) : (A ++ x :: B).length = A.length + (B.length + 1) := by simp
theorem mid_drop {α : Type} {f : α → List RV} {l : List α} {i : Nat} (h : i < l.length) : (l.drop i).map f = f l[i] :: (l.drop (i + 1)).map f := by rw [List.drop_eq_getElem_cons h]; rfl
end Go.Cap
