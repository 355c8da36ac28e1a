import Derived.Test.YtpkemdacmcjgmaaX1
import Derived.Test.YtpkemdacmcjgmaaS2
/- Contracts: marks on messages. -/
namespace Go.Cap
open Go Go.Proofs
set_option maxRecDepth 100000
set_option linter.unusedSimpArgs false
set_option linter.unusedVariables false
attribute [local irreducible] Call Run Spec Le

def markMsg (n : Int) : Msg := ⟨n, n + 1, div3 (n + 2), markT (n + 3)⟩
theorem s_markMessageS (l : List Msg) (n : Int) (hn : 0 ≤ n ∧ n ≤ 1000) (hl : l.length ≤ 1000000) : Spec Try.prog 37 1 [(0, .row 4 (l.map Msg.row))] [.sl 0 0 l.length, .i n] (Named fun r B => r = .i (n + 4 * l.length) ∧ B = .row 4 ((marks markMsg 4 l.length n).map Msg.row)) := by
  refine Spec.named ?_
  refine mk37 rfl fun c hP hm => ?_
  unfold pc37
  simp only [go_sem, ↓reduceIte]
  refine run_exit 0 (fun t0 => t0 = ⟨[(1, .i (n + 4 * l.length))], [(0, .row 4 ((marks markMsg 4 l.length n).map Msg.row))], 1, []⟩) ?_ (fun t0 h => by rw [h]; simp only [go_sem, ↓reduceIte]; exact ⟨_, rfl, rfl, rfl⟩)
  refine lp_wpc (α := Nat) (fun i => ⟨[(0, .sl 0 0 l.length), (1, .i (n + 4 * i)), (5, .i i)], [(0, .row 4 ((marks markMsg 4 i n).map Msg.row ++ (l.drop i).map Msg.row))], 1, []⟩) (fun i => i ≤ l.length) (fun i => l.length - i) 0 (Nat.zero_le _) (le_eq (by simp [marks])) ?_
  intro i hi
  unfold pc37l0
  rcases Nat.lt_or_ge i l.length with hil | hil
  · have hM : ((marks markMsg 4 i n).map Msg.row).length = i := by rw [List.length_map, marks_len]
    have hA := congrArg (List.map Msg.row) (marks_succ markMsg 4 i n)
    rw [List.map_append, List.map_cons, List.map_nil] at hA
    rw [mid_drop hil]
    generalize (marks markMsg 4 i n).map Msg.row = A at hM hA
    have hBl : ((l.drop (i + 1)).map Msg.row).length = l.length - (i + 1) := by simp
    generalize hB : (l.drop (i + 1)).map Msg.row = B at hBl
    simp only [Int.toNat_natCast, mid_get hM, mid_set hM, mid_len, Msg.row, go_sem, ↓reduceIte]
    simp (disch := omega) only [wrap64]
    intro _
    refine ⟨fun hlt => ?_, fun hge => absurd hge (by omega)⟩
    repeat' refine And.intro ?_ ?_
    all_goals first
      | omega
      | (refine call_pure (hP ▸ s_markText _ (by omega)) rfl rfl ?_
         simp only [Int.toNat_natCast, mid_get hM, mid_set hM, mid_len, go_sem, ↓reduceIte]
         simp (disch := omega) only [wrap64]
         refine ⟨⟨by omega, by omega⟩, by omega, i + 1, hil, by omega, le_ev [] ?_⟩
         rw [hA, hB]
         simp only [hm, markMsg, div3, Msg.row, List.append_assoc, Int.natCast_add, Int.mul_add, Int.add_assoc, Int.reduceAdd, go_sem, ↓reduceIte]
         rfl)
  · have : i = l.length := by omega
    subst this
    simp only [go_sem, ↓reduceIte]
    exact fun _ => ⟨_, rfl, le_ev [] (by simp only [hm, List.drop_length, go_sem, ↓reduceIte])⟩
theorem s_markMessageS_nil (n : Int) : Spec Try.prog 37 0 [] [.r .nil, .i n] (fun r _ _ _ => r = .i n) := by
  refine mk37 rfl fun c hP hm => ?_
  unfold pc37
  simp only [go_sem, ↓reduceIte]
  refine lp_wpc (α := Unit) (fun _ => ⟨[(0, .r .nil), (1, .i n), (5, .i 0)], [], 0, []⟩) (fun _ => True) (fun _ => 0) () trivial (Le.refl _) ?_
  intro i hi
  unfold pc37l0
  simp only [go_sem, ↓reduceIte]
theorem s_heldMessageS (k : Nat) (n : Int) (hn : 0 ≤ n ∧ n ≤ 1000) (hk : k ≤ 1000000) : Spec Try.prog 38 0 [] [.r (.ro none ((marks markMsg 4 k n).map Msg.row)), .i n] (fun r _ _ _ => r = .i (n + 4 * k)) := by
  refine mk38 rfl fun c hP hm => ?_
  unfold pc38
  simp only [go_sem, ↓reduceIte]
  have hlen : (marks markMsg 4 k n).length = k := marks_len ..
  refine lp_wpc (α := Nat) (fun i => ⟨[(0, .r (.ro none ((marks markMsg 4 k n).map Msg.row))), (1, .i (n + 4 * i)), (5, .i i)], [], 0, []⟩) (fun i => i ≤ k) (fun i => k - i) 0 (Nat.zero_le _) (le_eq (by simp)) ?_
  intro i hi
  unfold pc38l0
  rcases Nat.lt_or_ge i k with hik | hik
  · have hil : i < (marks markMsg 4 k n).length := by omega
    have hg : (marks markMsg 4 k n)[i] = markMsg (n + 4 * i) := by
      have := marks_get markMsg 4 n hik
      rw [List.getElem?_eq_getElem hil] at this
      exact Option.some.inj this
    simp only [Int.toNat_natCast, getD_map hil, hg, hlen, markMsg, Msg.row, go_sem, ↓reduceIte]
    simp (disch := omega) only [wrap64]
    simp only [div3, Int.add_assoc, Int.reduceAdd, go_sem, ↓reduceIte]
    intro _
    refine ⟨fun hlt => ?_, fun hge => absurd hge (by omega)⟩
    repeat' refine And.intro ?_ ?_
    all_goals first
      | omega
      | (refine call_pure (hP ▸ s_markText _ (by omega)) rfl rfl ?_
         simp only [Int.toNat_natCast, getD_map hil, hg, markMsg, div3, Msg.row, Int.add_assoc, Int.reduceAdd, go_sem, ↓reduceIte]
         simp (disch := omega) only [wrap64]
         repeat' refine And.intro ?_ ?_
         all_goals first
           | omega
           | exact ⟨i + 1, hik, by omega, le_eq (by simp only [Int.natCast_add, Int.mul_add, Int.add_assoc, Int.reduceAdd]; rfl)⟩)
  · have : i = k := by omega
    subst this
    simp only [hlen, go_sem, ↓reduceIte]
theorem s_heldMessageS_nil (n : Int) : Spec Try.prog 38 0 [] [.r .nil, .i n] (fun r _ _ _ => r = .i n) := by
  refine mk38 rfl fun c hP hm => ?_
  unfold pc38
  simp only [go_sem, ↓reduceIte]
  refine lp_wpc (α := Unit) (fun _ => ⟨[(0, .r .nil), (1, .i n), (5, .i 0)], [], 0, []⟩) (fun _ => True) (fun _ => 0) () trivial (Le.refl _) ?_
  intro i hi
  unfold pc38l0
  simp only [go_sem, ↓reduceIte]
theorem s_eqMessage (x : Msg) : Spec Try.prog 66 0 [] [x.av, x.av] (fun r _ _ _ => r = .bo true) := by
  refine mk66 rfl fun c hP hm => ?_
  unfold pc66 Msg.av
  simp only [go_sem, ↓reduceIte]
theorem s_eqMessageS (l : List Msg) : Spec Try.prog 34 0 [] [.r (.ro none (l.map Msg.row)), .r (.ro none (l.map Msg.row))] (fun r _ _ _ => r = .bo true) := by
  refine mk34 rfl fun c hP hm => ?_
  unfold pc34
  simp only [go_sem, ↓reduceIte]
  intro hlen _
  refine lp_wpc (α := Nat) (fun i => ⟨[(0, .r (.ro none (l.map Msg.row))), (1, .r (.ro none (l.map Msg.row))), (5, .i i)], [], 0, []⟩) (fun i => i ≤ l.length) (fun i => l.length - i) 0 (Nat.zero_le _) (Le.refl _) ?_
  intro i hi
  unfold pc34l0
  simp only [go_sem, ↓reduceIte]
  intro _
  intro hlt
  have hil : i < l.length := by omega
  simp only [Int.toNat_natCast, getD_map hil, Msg.row, go_sem, ↓reduceIte]
  refine ⟨⟨by omega, by omega⟩, ⟨by omega, by omega⟩, ?_⟩
  refine call_pure (hP ▸ s_eqMessage l[i]) rfl rfl ?_
  simp only [go_sem, ↓reduceIte]
  rw [wrap64 (by omega) (by omega)]
  exact ⟨i + 1, hil, by omega, Le.refl _⟩
theorem s_eqMessageS_nil : Spec Try.prog 34 0 [] [.r .nil, .r (.ro none [])] (fun r _ _ _ => r = .bo true) := by
  refine mk34 rfl fun c hP hm => ?_
  unfold pc34
  simp only [go_sem, ↓reduceIte]
  refine lp_wpc (α := Unit) (fun _ => ⟨[(0, .r .nil), (1, .r (.ro none [])), (5, .i 0)], [], 0, []⟩) (fun _ => True) (fun _ => 0) () trivial (Le.refl _) ?_
  intro i hi
  unfold pc34l0
  simp only [go_sem, ↓reduceIte]
end Go.Cap
