import Derived.Test.YtpkemdacmcjgmaaS1
/- Contracts: a valid part, and which part may follow. -/
namespace Go.Cap
open Go Go.Proofs
set_option maxRecDepth 100000
set_option linter.unusedSimpArgs false
set_option linter.unusedVariables false
attribute [local irreducible] Call Run Spec Le

def dataB (d : Data) : Bool := serialB d.tsn && serialB d.stream && serialB d.ssn && decide (1 ≤ d.text.length ∧ d.text.length ≤ 20)
def likeB (a b : Data) : Bool := a.stream == b.stream && a.ssn == b.ssn && a.loose == b.loose
theorem like_comm (a b : Data) : likeB a b = likeB b a := by
  unfold likeB
  rw [Bool.beq_comm (a := a.loose), BEq.comm (a := a.stream), BEq.comm (a := a.ssn)]
theorem s_dataOk (d : Data) (h : d.text.length ≤ 9223372036854775807) : Spec Try.prog 69 0 [] [d.av] (fun r _ _ _ => r = .bo (dataB d)) := by
  refine mk69 rfl fun c hP hm => ?_
  unfold pc69 Data.av
  simp only [go_sem, ↓reduceIte]
  repeat' first | refine And.intro ?_ ?_ | intro _ | (refine c_serialOk hP ?_; simp only [go_sem, ↓reduceIte])
  all_goals (apply bo_inj; rw [Bool.eq_iff_iff]; simp [dataB, *] <;> omega)
theorem s_l12Data (d : Data) (h : d.text.length ≤ 9223372036854775807) : Spec Try.prog 85 0 [] [d.av] (fun r _ _ _ => r = .bo (dataB d)) := by
  refine mk85 rfl fun c hP hm => ?_
  unfold pc85 Data.av
  simp only [go_sem, ↓reduceIte]
  repeat' first | refine And.intro ?_ ?_ | intro _ | (refine c_l6In hP ?_; simp only [go_sem, ↓reduceIte]) | (refine c_l3Ok hP ?_; simp only [go_sem, ↓reduceIte])
  all_goals (apply bo_inj; rw [Bool.eq_iff_iff]; simp [dataB, inB, *] <;> omega)
theorem s_likeParts (a b : Data) : Spec Try.prog 88 0 [] [a.av, b.av] (fun r _ _ _ => r = .bo (likeB a b)) := by
  refine mk88 rfl fun c hP hm => ?_
  unfold pc88 Data.av
  simp only [go_sem, ↓reduceIte]
  repeat' first | refine And.intro ?_ ?_ | intro _
  all_goals (simp [likeB, *])
theorem s_l22Same (a b : Data) : Spec Try.prog 95 0 [] [a.av, b.av] (fun r _ _ _ => r = .bo (likeB a b)) := by
  refine mk95 rfl fun c hP hm => ?_
  unfold pc95 Data.av
  simp only [go_sem, ↓reduceIte]
  repeat' first | refine And.intro ?_ ?_ | intro _
  all_goals (simp [likeB, *])
/-- Which part may follow others. -/
def mayB (l : List Data) (d : Data) : Bool := match l.getLast? with
  | some x => if x.last then d.first && (d.loose || d.ssn == ssnIn l d.stream) else !d.first && likeB d x
  | none => d.first && (d.loose || d.ssn == ssnIn l d.stream)
theorem s_l31Follows (l : List Data) (d : Data) (hl : l.length ≤ 2000000) : Spec Try.prog 86 0 [] [.r (.ro none (l.map Data.row)), d.av] (fun r _ _ _ => r = .bo (mayB l d)) := by
  refine mk86 rfl fun c hP hm => ?_
  unfold pc86 Data.av
  rcases l.eq_nil_or_concat with rfl | ⟨l0, x, rfl⟩
  · simp only [go_sem, ↓reduceIte]
    repeat' first | refine And.intro ?_ ?_ | intro _ | (refine call_pure (hP ▸ s_l31Ssn [] d.stream (by decide)) rfl rfl ?_; simp only [go_sem, ↓reduceIte])
    all_goals (try (apply bo_inj; simp [mayB, *]))
  · rw [List.concat_eq_append] at hl ⊢
    have hlen : (l0 ++ [x]).length = l0.length + 1 := by simp
    have hlast : (l0 ++ [x]).getLast? = some x := by simp
    have hg : ((l0 ++ [x]).map Data.row).getD l0.length [] = [.n .i64 x.tsn, .n .i64 x.stream, .n .i64 x.ssn, .b x.first, .b x.last, .b x.loose, .s x.text] := by
      rw [List.map_append, List.map_cons]; exact mid_get (by simp)
    generalize hL : l0 ++ [x] = l at hl hlen hlast hg
    have e1 : IntKind.i64.wrap (((l0.length + 1 : Nat) : Int) - 1) = (l0.length : Int) := by rw [wrap64 (by omega) (by omega)]; omega
    simp only [hlen, e1, hg, Int.toNat_natCast, go_sem, ↓reduceIte]
    have hlike := like_comm d x
    repeat' first | refine And.intro ?_ ?_ | intro _ | (refine call_pure (hP ▸ s_l31Ssn l d.stream (by omega)) rfl rfl ?_; simp only [go_sem, ↓reduceIte]) | (refine call_pure (hP ▸ s_l22Same x d) rfl rfl ?_; simp only [hlen, e1, hg, Int.toNat_natCast, go_sem, ↓reduceIte])
    all_goals first
      | omega
      | (apply bo_inj; simp [mayB, *])
theorem loop_mayFollow {c : Cx} (hm : c.m = 0) (l : List Data) (d : Data) (hl : l.length ≤ 2000000) {s0 : St} {n r : St → Prop} {x : Nat → St → Prop}
    (hs : Le c s0 ⟨[(3, .ptr 0 0 0), (5, .i 0), (39, .r (.ro none (l.map Data.row))), (40, .i l.length), (41, .i 0)], [(0, .var [.i d.tsn, .i d.stream, .i d.ssn, .bo d.first, .bo d.last, .bo d.loose, .st d.text])], 1, []⟩)
    (hx : x 0 ⟨[(3, .ptr 0 0 0), (5, .i (ssnIn l d.stream))], [(0, .var [.i d.tsn, .i d.stream, .i d.ssn, .bo d.first, .bo d.last, .bo d.loose, .st d.text])], 1, []⟩) :
    Run c (.lp pc70l0) s0 n x r := by
  refine run_exit 0 (fun t0 => t0 = ⟨[(3, .ptr 0 0 0), (5, .i (ssnIn l d.stream))], [(0, .var [.i d.tsn, .i d.stream, .i d.ssn, .bo d.first, .bo d.last, .bo d.loose, .st d.text])], 1, []⟩) ?_ (fun t0 h => by rw [h]; exact hx)
  refine lp_wpc (α := Nat) (fun i => ⟨[(3, .ptr 0 0 0), (5, .i (ssnIn (l.take i) d.stream)), (39, .r (.ro none (l.map Data.row))), (40, .i l.length), (41, .i i)], [(0, .var [.i d.tsn, .i d.stream, .i d.ssn, .bo d.first, .bo d.last, .bo d.loose, .st d.text])], 1, []⟩)
    (fun i => i ≤ l.length) (fun i => l.length - i) 0 (Nat.zero_le _) hs ?_
  intro i hi
  unfold pc70l0
  rcases Nat.lt_or_ge i l.length with hil | hil
  · have hst := ssnIn_take hil d.stream
    have hle := ssnIn_le (l.take i) d.stream
    have htl : (l.take i).length ≤ l.length := by rw [List.length_take]; omega
    simp only [Int.toNat_natCast, getD_map hil, Data.row, hm, go_sem, ↓reduceIte]
    rw [wrap64 (x := (i : Int) + 1) (by omega) (by omega), wrap64 (x := (ssnIn (l.take i) d.stream : Int) + 1) (by omega) (by omega)]
    repeat' first | refine And.intro ?_ ?_ | intro _
    all_goals first
      | omega
      | (refine ⟨i + 1, hil, by omega, ?_⟩
         rw [hst]
         simp only [*, if_true, if_false, Bool.false_eq_true, and_self, true_and, false_and, and_false, reduceCtorEq, Nat.add_zero]
         exact le_ev [] (by simp only [hm, go_sem, ↓reduceIte]; first | rfl | exact ⟨rfl, rfl⟩))
  · have : i = l.length := by omega
    subst this
    simp only [go_sem, ↓reduceIte]
    exact ⟨_, rfl, le_ev [] (by simp only [hm, List.take_length, go_sem, ↓reduceIte])⟩
theorem s_mayFollow (l : List Data) (d : Data) (hl : l.length ≤ 2000000) : Spec Try.prog 70 0 [] [.r (.ro none (l.map Data.row)), d.av] (fun r _ _ _ => r = .bo (mayB l d)) := by
  refine mk70 rfl fun c hP hm => ?_
  unfold pc70 Data.av
  rcases l.eq_nil_or_concat with rfl | ⟨l0, x, rfl⟩
  · simp only [go_sem, ↓reduceIte]
    refine ⟨fun h => by apply bo_inj; simp [mayB, h], fun h => ⟨fun h2 => by apply bo_inj; simp [mayB, h, h2], fun h2 => ?_⟩⟩
    refine loop_mayFollow hm [] d (by decide) (le_ev [] (by simp only [hm, List.map_nil, go_sem, ↓reduceIte])) ?_
    simp only [go_sem, ↓reduceIte]
    apply bo_inj; simp [mayB, h, h2]
  · rw [List.concat_eq_append] at hl ⊢
    have hlen : (l0 ++ [x]).length = l0.length + 1 := by simp
    have hlast : (l0 ++ [x]).getLast? = some x := by simp
    have hg : ((l0 ++ [x]).map Data.row).getD l0.length [] = [.n .i64 x.tsn, .n .i64 x.stream, .n .i64 x.ssn, .b x.first, .b x.last, .b x.loose, .s x.text] := by
      rw [List.map_append, List.map_cons]; exact mid_get (by simp)
    generalize hL : l0 ++ [x] = l at hl hlen hlast hg
    have e1 : IntKind.i64.wrap (((l0.length + 1 : Nat) : Int) - 1) = (l0.length : Int) := by rw [wrap64 (by omega) (by omega)]; omega
    simp only [hlen, e1, hg, Int.toNat_natCast, go_sem, ↓reduceIte]
    repeat' first | refine And.intro ?_ ?_ | intro _ | (refine call_pure (hP ▸ s_likeParts d x) rfl rfl ?_; simp only [hlen, e1, hg, Int.toNat_natCast, go_sem, ↓reduceIte]) | (refine loop_mayFollow hm l d (by omega) (le_ev [] (by simp only [hm, hlen, go_sem, ↓reduceIte])) ?_; simp only [go_sem, ↓reduceIte])
    all_goals first
      | omega
      | (apply bo_inj; simp [mayB, *])
end Go.Cap
