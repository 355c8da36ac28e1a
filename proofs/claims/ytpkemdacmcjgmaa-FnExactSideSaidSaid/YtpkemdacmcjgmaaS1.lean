import Derived.Test.YtpkemdacmcjgmaaP3
/- What a side said: the plain law, and the contracts of TalkSaid. -/
namespace Go.Cap
open Go Go.Proofs
set_option maxRecDepth 100000
set_option linter.unusedSimpArgs false
set_option linter.unusedVariables false
attribute [local irreducible] Call Run Spec Le

structure Msg where
  stream : Int
  ssn : Int
  loose : Bool
  text : List UInt8
def Msg.row (d : Msg) : List RV := [.n .i64 d.stream, .n .i64 d.ssn, .b d.loose, .s d.text]
def Msg.av (d : Msg) : AV := .agg [.i d.stream, .i d.ssn, .bo d.loose, .st d.text]
/-- The messages that parts make up, and the text that is still open. -/
def saidStep (x : List Msg × List UInt8) (d : Data) : List Msg × List UInt8 :=
  if d.last then (x.1 ++ [⟨d.stream, d.ssn, d.loose, x.2 ++ d.text⟩], []) else (x.1, x.2 ++ d.text)
def saidSt (l : List Data) : List Msg × List UInt8 := l.foldl saidStep ([], [])
def said (l : List Data) : List Msg := (saidSt l).1
theorem saidSt_app (a b : List Data) : saidSt (a ++ b) = b.foldl saidStep (saidSt a) := by unfold saidSt; rw [List.foldl_append]
theorem saidSt_take {l : List Data} {i : Nat} (h : i < l.length) : saidSt (l.take (i + 1)) = saidStep (saidSt (l.take i)) l[i] := by rw [take_get h, saidSt_app]; rfl
theorem saidSt_len' (m : Nat) : ∀ (l : List Data) (x : List Msg × List UInt8), (∀ d ∈ l, d.text.length ≤ m) → (l.foldl saidStep x).1.length ≤ x.1.length + l.length ∧ (l.foldl saidStep x).2.length ≤ x.2.length + m * l.length
  | [], x, _ => by simp
  | d :: l, x, h => by
    have h3 := h d (List.mem_cons_self ..)
    obtain ⟨h1, h2⟩ := saidSt_len' m l (saidStep x d) (fun y hy => h y (List.mem_cons_of_mem _ hy))
    have e : m * (l.length + 1) = m * l.length + m := by rw [Nat.mul_add, Nat.mul_one]
    simp only [List.foldl_cons, List.length_cons]
    have k1 : (saidStep x d).1.length ≤ x.1.length + 1 := by unfold saidStep; split <;> simp
    have k2 : (saidStep x d).2.length ≤ x.2.length + m := by unfold saidStep; split <;> simp <;> omega
    omega
theorem saidSt_len (l : List Data) (m : Nat) (h : ∀ d ∈ l, d.text.length ≤ m) : (saidSt l).1.length ≤ l.length ∧ (saidSt l).2.length ≤ m * l.length := by
  have := saidSt_len' m l ([], []) h
  simpa [saidSt] using this
theorem msgClosed (l : List Msg) : closL2 (l.map Msg.row) := closL2_map (fun s x hx => by
  simp only [Msg.row, List.mem_cons, List.not_mem_nil, or_false] at hx
  rcases hx with rfl | rfl | rfl | rfl <;> rfl) l
theorem s_l31Said (l : List Data) (hl : l.length ≤ 100000) (hx : ∀ d ∈ l, d.text.length ≤ 100000) : Spec Try.prog 55 0 [] [.r (.ro none (l.map Data.row))] (New1 (.sl 0 0 (said l).length) 4 ((said l).map Msg.row)) := by
  refine Spec.new1 (Q := fun r hp _ _ => r = .sl 0 0 (said l).length ∧ hget hp 0 = some (.row 4 ((said l).map Msg.row))) ?_ (fun r hp nx gs h => ⟨0, h.1, h.2⟩) (fun f g h => by simp only [go_sem, h])
  refine mk55 rfl fun c hP hm => ?_
  unfold pc55
  simp only [go_sem, ↓reduceIte]
  refine run_exit 0 (fun t0 => t0 = ⟨[(3, .sl 0 0 (said l).length)], [(0, .row 4 ((said l).map Msg.row))], 1, []⟩) ?_ (fun t0 h => by rw [h]; simp only [go_sem, ↓reduceIte])
  refine lp_wpc (α := Nat) (fun i => ⟨[(0, .r (.ro none (l.map Data.row))), (3, .sl 0 0 (saidSt (l.take i)).1.length), (4, .st (saidSt (l.take i)).2), (5, .i i)], [(0, .row 4 ((saidSt (l.take i)).1.map Msg.row))], 1, []⟩) (fun i => i ≤ l.length) (fun i => l.length - i) 0 (Nat.zero_le _) (le_eq (by simp [saidSt])) ?_
  intro i hi
  unfold pc55l0
  rcases Nat.lt_or_ge i l.length with hil | hil
  · obtain ⟨k1, k2⟩ := saidSt_len (l.take i) 100000 (fun d hd => hx d (List.mem_of_mem_take hd))
    have hd := hx _ (List.getElem_mem hil)
    have hs := saidSt_take hil
    simp only [Int.toNat_natCast, getD_map hil, Data.row, hm, go_sem, ↓reduceIte]
    have hti : (l.take i).length = i := by rw [List.length_take]; omega
    generalize saidSt (l.take i) = st at k1 k2 hs
    obtain ⟨ms, acc⟩ := st
    simp only at k1 k2
    simp only [List.take_of_length_le (i := ms.length) (l := ms.map Msg.row) (by simp)]
    rw [wrap64 (x := (i : Int) + 1) (by omega) (by omega)]
    intro _
    refine ⟨fun hlt => ⟨⟨by omega, by omega⟩, by omega, fun hlast => ⟨by omega, i + 1, hil, by omega, ?_⟩, fun hlast => ⟨i + 1, hil, by omega, ?_⟩⟩, fun hge => absurd hge (by omega)⟩
    · rw [hs]
      unfold saidStep
      rw [if_pos hlast]
      exact le_ev [] (by simp only [hm, List.map_append, Msg.row, go_sem, ↓reduceIte]; rfl)
    · rw [hs]
      unfold saidStep
      rw [if_neg (by simp [hlast])]
      exact le_ev [] (by simp only [hm, go_sem, ↓reduceIte]; rfl)
  · have : i = l.length := by omega
    subst this
    simp only [go_sem, ↓reduceIte]
    exact fun _ => ⟨_, rfl, le_ev [] (by simp only [hm, List.take_length, said, go_sem, ↓reduceIte])⟩
end Go.Cap
