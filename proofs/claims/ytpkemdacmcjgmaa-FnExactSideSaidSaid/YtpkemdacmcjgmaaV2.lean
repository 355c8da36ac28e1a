import Derived.Test.YtpkemdacmcjgmaaV1
/- Contracts: a valid side, and what it said. -/
namespace Go.Cap
open Go Go.Proofs
set_option maxRecDepth 100000
set_option linter.unusedSimpArgs false
set_option linter.unusedVariables false
attribute [local irreducible] Call Run Spec Le

structure Side where
  tag : Int
  streams : Int
  first : Int
  sent : List Data
  acked : Int
def Side.av (s : Side) (x : AV) : AV := .agg [.i s.tag, .i s.streams, .i s.first, x, .i s.acked]
def Side.ro (s : Side) : AV := s.av (.r (.ro none (s.sent.map Data.row)))
def partB (add : Int → Int → Int) (s : Side) (i : Nat) (d : Data) : Bool := dataB d && d.tsn == add s.first i && decide (d.stream < s.streams) && mayB (s.sent.take i) d
def sideLoop (add : Int → Int → Int) (s : Side) : Nat → List Data → Bool
  | _, [] => true
  | i, d :: l => partB add s i d && sideLoop add s (i + 1) l
theorem sideLoop_drop {add : Int → Int → Int} {s : Side} {l : List Data} {i : Nat} (h : i < l.length) : sideLoop add s i (l.drop i) = (partB add s i l[i] && sideLoop add s (i + 1) (l.drop (i + 1))) := by
  rw [List.drop_eq_getElem_cons h]; rfl
def headB (s : Side) : Bool := decide (1 ≤ s.tag ∧ s.tag ≤ 4294967295) && decide (1 ≤ s.streams ∧ s.streams ≤ 4) && serialB s.first && decide (s.sent.length ≤ 12) && decide (0 ≤ s.acked ∧ s.acked ≤ s.sent.length)
def noneB (s : Side) : Bool := s.streams == 0 && s.first == 0 && decide (s.sent.length = 0) && s.acked == 0
def sideB (s : Side) : Bool := if s.tag = 0 then noneB s else headB s && sideLoop l3 s 0 s.sent
/-- The sum, as the reference reckons it for any first number. -/
def l3g (a n : Int) : Int := (IntKind.i64.wrap (IntKind.i64.wrap (a + n.tmod 65536) + 65536)).tmod 65536
theorem s_l3Add' (a n : Int) : Spec Try.prog 83 0 [] [.i a, .i n] (fun r _ _ _ => r = .i (l3g a n)) := by
  refine mk83 rfl fun c hP hm => ?_
  unfold pc83
  simp only [go_sem, ↓reduceIte]
  rfl
theorem l3g_eq {a n : Int} (ha : 0 ≤ a ∧ a < 65536) : l3g a n = l3 a n := by
  obtain ⟨h1, h2, h3⟩ := tmod64k n
  unfold l3g
  rw [wrap64 (x := a + n.tmod 65536) (by omega) (by omega), wrap64 (by omega) (by omega), Int.tmod_eq_emod_of_nonneg (by omega)]
  unfold l3
  omega
theorem sideLoop_congr {f g : Int → Int → Int} {s : Side} (h : ∀ n, f s.first n = g s.first n) : ∀ (i : Nat) (l : List Data), sideLoop f s i l = sideLoop g s i l
  | _, [] => rfl
  | i, d :: l => by simp only [sideLoop, partB, h, sideLoop_congr h (i + 1) l]

theorem s_SerialAdd1 (a n : Int) (h : serialB a = true) : Spec Try.prog 28 0 [] [.i a, .i n] (fun r _ _ _ => r = .i (l3 a n)) := by
  have := s_SerialAdd a n; rwa [if_pos h] at this
theorem loop_implSideValid {c : Cx} (hP : c.P = Try.prog) (hm : c.m = 0) (s : Side) (hl : s.sent.length ≤ 12) (hx : ∀ d ∈ s.sent, d.text.length ≤ 9223372036854775807) (hf : serialB s.first = true) {s0 : St} {n r : St → Prop} {x : Nat → St → Prop}
    (hs : Le c s0 ⟨[(1, .ptr 0 0 0), (71, .r (.ro none (s.sent.map Data.row))), (72, .i s.sent.length), (73, .i 0)], [(0, .var [.i s.tag, .i s.streams, .i s.first, .r (.ro none (s.sent.map Data.row)), .i s.acked])], 1, []⟩)
    (hr : sideLoop l3 s 0 s.sent = false → ∀ hp nx gs, r ⟨[(2, .r (.b false))], hp, nx, gs⟩)
    (hx0 : sideLoop l3 s 0 s.sent = true → x 0 ⟨[], [], 1, []⟩) :
    Run c (.lp pc40l0) s0 n x r := by
  refine run_exit 0 (fun t0 => t0 = ⟨[], [], 1, []⟩ ∧ sideLoop l3 s 0 s.sent = true) ?_ (fun t0 h => by rw [h.1]; exact hx0 h.2)
  refine lp_wpc (α := Nat) (fun i => ⟨[(1, .ptr 0 0 0), (71, .r (.ro none (s.sent.map Data.row))), (72, .i s.sent.length), (73, .i i)], [(0, .var [.i s.tag, .i s.streams, .i s.first, .r (.ro none (s.sent.map Data.row)), .i s.acked])], 1, []⟩)
    (fun i => i ≤ s.sent.length ∧ sideLoop l3 s i (s.sent.drop i) = sideLoop l3 s 0 s.sent) (fun i => s.sent.length - i) 0 ⟨Nat.zero_le _, rfl⟩ hs ?_
  rintro i ⟨hi, hI⟩
  unfold pc40l0
  rcases Nat.lt_or_ge i s.sent.length with hil | hil
  · rw [sideLoop_drop hil] at hI
    have hd := hx _ (List.getElem_mem hil)
    simp only [Int.toNat_natCast, getD_map hil, Data.row, hm, go_sem, ↓reduceIte]
    generalize s.sent[i] = d at hI hd
    repeat' first | refine And.intro ?_ ?_ | intro _ | (refine call_pure (hP ▸ s_dataOk d hd) rfl rfl ?_; simp only [Int.toNat_natCast, getD_map hil, hm, go_sem, ↓reduceIte]) | (refine call_pure (hP ▸ s_SerialAdd1 s.first i hf) rfl rfl ?_; simp only [Int.toNat_natCast, getD_map hil, ← List.map_take, hm, go_sem, ↓reduceIte]) | (refine call_pure (hP ▸ s_mayFollow (s.sent.take i) d (by rw [List.length_take]; omega)) rfl rfl ?_; simp only [Int.toNat_natCast, getD_map hil, hm, go_sem, ↓reduceIte])
    all_goals first
      | omega
      | (rename_i h; obtain ⟨_, _, rfl⟩ := List.mem_map.1 h; rfl)
      | (refine hr ?_ _ _ _; rw [← hI]; simp [partB, *]; done)
      | (rename_i h; have h' := Int.not_lt.2 h; refine hr ?_ _ _ _; rw [← hI]; simp [partB, h']; done)
      | (refine ⟨i + 1, ⟨hil, ?_⟩, by omega, ?_⟩
         · rw [← hI]; simp [partB, *]
         · rw [wrap64 (by omega) (by omega)]
           exact le_ev [] (by simp only [hm, go_sem, ↓reduceIte]; rfl))
  · have : i = s.sent.length := by omega
    subst this
    rw [List.drop_eq_nil_of_le (Nat.le_refl _)] at hI
    simp only [go_sem, ↓reduceIte]
    exact ⟨_, ⟨rfl, hI.symm⟩, le_ev [] (by simp only [hm, go_sem, ↓reduceIte])⟩
theorem loop_specSideValid {c : Cx} (hP : c.P = Try.prog) (hm : c.m = 0) (s : Side) (hl : s.sent.length ≤ 2000000) (hx : ∀ d ∈ s.sent, d.text.length ≤ 9223372036854775807) {s0 : St} {n r : St → Prop} {x : Nat → St → Prop}
    (hs : Le c s0 ⟨[(1, .ptr 0 0 0), (3, .i 0)], [(0, .var [.i s.tag, .i s.streams, .i s.first, .r (.ro none (s.sent.map Data.row)), .i s.acked])], 1, []⟩)
    (hr : sideLoop l3g s 0 s.sent = false → ∀ hp nx gs, r ⟨[(2, .r (.b false))], hp, nx, gs⟩)
    (hx0 : sideLoop l3g s 0 s.sent = true → x 0 ⟨[(1, .ptr 0 0 0)], [(0, .var [.i s.tag, .i s.streams, .i s.first, .r (.ro none (s.sent.map Data.row)), .i s.acked])], 1, []⟩) :
    Run c (.lp pc63l0) s0 n x r := by
  refine run_exit 0 (fun t0 => t0 = ⟨[(1, .ptr 0 0 0)], [(0, .var [.i s.tag, .i s.streams, .i s.first, .r (.ro none (s.sent.map Data.row)), .i s.acked])], 1, []⟩ ∧ sideLoop l3g s 0 s.sent = true) ?_ (fun t0 h => by rw [h.1]; exact hx0 h.2)
  refine lp_wpc (α := Nat) (fun i => ⟨[(1, .ptr 0 0 0), (3, .i i)], [(0, .var [.i s.tag, .i s.streams, .i s.first, .r (.ro none (s.sent.map Data.row)), .i s.acked])], 1, []⟩)
    (fun i => i ≤ s.sent.length ∧ sideLoop l3g s i (s.sent.drop i) = sideLoop l3g s 0 s.sent) (fun i => s.sent.length - i) 0 ⟨Nat.zero_le _, rfl⟩ hs ?_
  rintro i ⟨hi, hI⟩
  unfold pc63l0
  rcases Nat.lt_or_ge i s.sent.length with hil | hil
  · rw [sideLoop_drop hil] at hI
    have hd := hx _ (List.getElem_mem hil)
    simp only [Int.toNat_natCast, getD_map hil, Data.row, hm, go_sem, ↓reduceIte]
    generalize s.sent[i] = d at hI hd
    repeat' first | refine And.intro ?_ ?_ | intro _ | (refine call_pure (hP ▸ s_l12Data d hd) rfl rfl ?_; simp only [Int.toNat_natCast, getD_map hil, hm, go_sem, ↓reduceIte]) | (refine call_pure (hP ▸ s_l3Add' s.first i) rfl rfl ?_; simp only [Int.toNat_natCast, getD_map hil, ← List.map_take, hm, go_sem, ↓reduceIte]) | (refine call_pure (hP ▸ s_l31Follows (s.sent.take i) d (by rw [List.length_take]; omega)) rfl rfl ?_; simp only [Int.toNat_natCast, getD_map hil, hm, go_sem, ↓reduceIte])
    all_goals first
      | omega
      | (rename_i h; obtain ⟨_, _, rfl⟩ := List.mem_map.1 h; rfl)
      | (refine hr ?_ _ _ _; rw [← hI]; simp [partB, *]; done)
      | (rename_i h; have h' := Int.not_lt.2 h; refine hr ?_ _ _ _; rw [← hI]; simp [partB, h']; done)
      | (refine ⟨i + 1, ⟨hil, ?_⟩, by omega, ?_⟩
         · rw [← hI]; simp [partB, *]
         · rw [wrap64 (by omega) (by omega)]
           exact le_ev [] (by simp only [hm, go_sem, ↓reduceIte]; rfl))
  · have : i = s.sent.length := by omega
    subst this
    rw [List.drop_eq_nil_of_le (Nat.le_refl _)] at hI
    simp only [go_sem, ↓reduceIte]
    exact fun _ => ⟨_, ⟨rfl, hI.symm⟩, le_ev [] (by simp only [hm, go_sem, ↓reduceIte])⟩
theorem s_implSideValid (s : Side) (hl : s.sent.length ≤ 2000000) (hx : ∀ d ∈ s.sent, d.text.length ≤ 9223372036854775807) : Spec Try.prog 40 0 [] [s.ro] (fun r _ _ _ => r = .bo (sideB s)) := by
  refine mk40 rfl fun c hP hm => ?_
  unfold pc40 Side.ro Side.av
  simp only [go_sem, ↓reduceIte]
  repeat' first | refine And.intro ?_ ?_ | intro _ | (refine c_serialOk hP ?_; simp only [go_sem, ↓reduceIte])
  all_goals first
    | (apply bo_inj; rw [Bool.eq_iff_iff]; simp [sideB, noneB, headB, *] <;> omega)
    | (apply bo_inj; rw [Bool.eq_iff_iff]; simp only [sideB, noneB, if_pos (by assumption : s.tag = 0), Bool.and_eq_true, beq_iff_eq, decide_eq_true_eq, Bool.false_eq_true, false_iff]; omega)
    | (refine loop_implSideValid hP hm s (by omega) hx (by assumption) (le_ev [] (by simp only [hm, go_sem, ↓reduceIte])) ?_ ?_
       · intro hf hp nx gs
         simp only [go_sem, ↓reduceIte]
         apply bo_inj; simp [sideB, hf, *]
       · intro hf
         simp only [go_sem, ↓reduceIte]
         apply bo_inj; rw [Bool.eq_iff_iff]; simp [sideB, headB, *]; omega)
theorem s_specSideValid (s : Side) (hl : s.sent.length ≤ 2000000) (hx : ∀ d ∈ s.sent, d.text.length ≤ 9223372036854775807) : Spec Try.prog 63 0 [] [s.ro] (fun r _ _ _ => r = .bo (sideB s)) := by
  refine mk63 rfl fun c hP hm => ?_
  unfold pc63 Side.ro Side.av
  simp only [go_sem, ↓reduceIte]
  have key : serialB s.first = true → sideLoop l3g s 0 s.sent = sideLoop l3 s 0 s.sent := fun h => sideLoop_congr (fun n => l3g_eq (by simpa [serialB] using h)) _ _
  repeat' first | refine And.intro ?_ ?_ | intro _
  all_goals first
    | (apply bo_inj; rw [Bool.eq_iff_iff]; simp [sideB, noneB, *] <;> omega)
    | (apply bo_inj; rw [Bool.eq_iff_iff]; simp only [sideB, noneB, if_pos (by assumption : s.tag = 0), Bool.and_eq_true, beq_iff_eq, decide_eq_true_eq, Bool.false_eq_true, false_iff]; omega)
    | (refine loop_specSideValid hP hm s hl hx (le_ev [] (by simp only [hm, go_sem, ↓reduceIte])) ?_ ?_
       · intro hf hp nx gs
         simp only [go_sem, ↓reduceIte]
         apply bo_inj
         cases hser : serialB s.first
         · simp [sideB, headB, hser, *]
         · rw [key hser] at hf; simp [sideB, hf, *]
       · intro hf
         simp only [go_sem, ↓reduceIte]
         repeat' first | refine And.intro ?_ ?_ | intro _ | (refine c_l6In hP ?_; simp only [go_sem, ↓reduceIte]) | (refine c_l3Ok hP ?_; simp only [go_sem, ↓reduceIte])
         all_goals first
           | omega
           | (apply bo_inj; rw [Bool.eq_iff_iff]; simp only [inB, Bool.and_eq_true, decide_eq_true_eq, decide_eq_false_iff_not] at *; simp only [sideB, headB, if_neg (by assumption : ¬ s.tag = 0), Bool.and_eq_true, decide_eq_true_eq, Bool.false_eq_true, false_iff]; first
              | (have hk := key (by assumption); rw [hk] at hf; simp only [hf, *, and_true, true_and]; omega)
              | (simp only [*, Bool.false_eq_true, false_and, and_false, not_false_eq_true]; done)
              | omega))
end Go.Cap
