/- Contracts of functions, text E. -/
import Derived.Test.YtggbmeiomhbmpaaGreatEngC
import Derived.Test.YtggbmeiomhbmpaaGreatLawD
import Derived.Test.YtggbmeiomhbmpaaGreatPc
open Go Go.Proofs
set_option maxRecDepth 100000
set_option linter.unusedSimpArgs false
set_option linter.unusedVariables false
namespace Go.Cap
def monRun (l : List Rec) : Mon := if captB l then l.foldl (fun m x => stepMon m x.text) noMon else noMon
end Go.Cap
namespace Go.Cap
attribute [local irreducible] Call Run Spec Le
theorem recsFrom_drop {l : List Rec} {i : Nat} (h : i < l.length) (last : Int) : recsFrom last (l.drop i) = (inB l[i].time last 4294967295 && decide (l[i].text.length ≤ 120) && recsFrom l[i].time (l.drop (i + 1))) := by
  rw [List.drop_eq_getElem_cons h]; rfl
theorem s_implCaptureValid (l : List Rec) : Spec Tryz.prog 22 0 [] [.r (.ro none (l.map Rec.row))] (fun r _ _ _ => r = .bo (captB l)) := by
  refine mr22 rfl fun c hP hm => ?_
  unfold pc22
  refine run_seq (run_wpc _ _ _ _ _ ?_)
  simp only [hm,go_sem,↓reduceIte]
  refine run_seq (run_wpc _ _ _ _ _ ?_)
  simp only [hm,go_sem,↓reduceIte]
  repeat' first | refine And.intro ?_ ?_ | intro _
  all_goals first
    | (apply bo_inj; symm; rw [Bool.eq_false_iff]; intro hh; simp only [captB, Bool.and_eq_true, decide_eq_true_eq] at hh; omega)
    | skip
  refine run_wpc _ _ _ _ _ ?_
  simp only [hm,go_sem,↓reduceIte]
  intro _
  refine lp_wpc (α := Nat × Int) (fun y => ⟨[(3, .i y.2), (9, .r (.ro none (l.map Rec.row))), (10, .i l.length), (11, .i y.1)], [], 0, []⟩)
    (fun y => y.1 ≤ l.length ∧ recsFrom y.2 (l.drop y.1) = recsFrom 0 l) (fun y => l.length - y.1) (0, 0) ⟨Nat.zero_le _, rfl⟩ (by (refine le_ev [] ?_; simp only [hm,go_sem,↓reduceIte]; first | done | rfl | exact ⟨rfl, rfl⟩)) ?_
  rintro ⟨i, last⟩ ⟨hi, hI⟩
  simp only at hi hI
  unfold pc22l0
  rcases Nat.lt_or_ge i l.length with hil | hil
  · have hw : IntKind.i64.wrap ((i : Int) + 1) = ((i + 1 : Nat) : Int) := by rw [wrap64 (by omega) (by omega)]; omega
    rw [recsFrom_drop hil] at hI
    have hg := getD_map (f := Rec.row) hil
    generalize l[i] = x at hI hg
    have hok : recsFrom 0 l = false → AV.r (RV.b false) = AV.bo (captB l) := fun h => by simp [captB, h]
    unfold inB at hI
    simp only [hw, Int.toNat_natCast, hg, Rec.row, hm,go_sem,↓reduceIte]
    repeat' first | refine And.intro ?_ ?_ | intro _
    all_goals first
      | omega
      | rfl
      | (refine hok ?_; rw [← hI, decide_eq_false (by omega)]; rfl)
      | (refine hok ?_; rw [← hI, decide_eq_false (p := x.text.length ≤ 120) (by omega)]; simp)
      | (rw [decide_eq_true (by omega), decide_eq_true (p := x.text.length ≤ 120) (by omega)] at hI
         refine ⟨(i + 1, x.time), ⟨hil, by simpa using hI⟩, ?_, ?_⟩
         · simp only; omega
         · (refine le_ev [] ?_; simp only [hm,go_sem,↓reduceIte]; first | done | rfl | exact ⟨rfl, rfl⟩))
  · have : i = l.length := by omega
    subst this
    rw [List.drop_eq_nil_of_le (Nat.le_refl _)] at hI
    simp only [hm,go_sem,↓reduceIte]
    repeat' first | refine And.intro ?_ ?_ | intro _
    all_goals first
      | omega
      | (apply bo_inj; symm; simp only [captB, Bool.and_eq_true, decide_eq_true_eq]; exact ⟨hI.symm, by omega⟩)
theorem s_l14Record (x : Rec) (last : Int) : Spec Tryz.prog 42 0 [] [x.av, .i last] (fun r _ _ _ => r = .bo (inB x.time last 4294967295 && decide (x.text.length ≤ 120))) := by
  refine mk42 rfl fun c hP hm => ?_
  unfold pc42 Rec.av
  simp only [hm,go_sem,↓reduceIte]
  repeat' first | refine And.intro ?_ ?_ | intro _ | (refine c_l6In hP ?_; simp only [hm,go_sem,↓reduceIte])
  all_goals (apply bo_inj; rw [Bool.eq_iff_iff]; simp [*] <;> omega)
theorem s_specCaptureValid (l : List Rec) (hl : l.length ≤ 1000000000) : Spec Tryz.prog 19 0 [] [.r (.ro none (l.map Rec.row))] (fun r _ _ _ => r = .bo (captB l)) := by
  refine mk19 rfl fun c hP hm => ?_
  unfold pc19
  simp only [hm,go_sem,↓reduceIte]
  refine lp_wpc (α := Nat × Int) (fun y => ⟨[(0, .r (.ro none (l.map Rec.row))), (3, .i y.2), (4, .i y.1)], [], 0, []⟩)
    (fun y => y.1 ≤ l.length ∧ recsFrom y.2 (l.drop y.1) = recsFrom 0 l) (fun y => l.length - y.1) (0, 0) ⟨Nat.zero_le _, rfl⟩ (by (refine le_ev [] ?_; simp only [hm,go_sem,↓reduceIte]; first | done | rfl | exact ⟨rfl, rfl⟩)) ?_
  rintro ⟨i, last⟩ ⟨hi, hI⟩
  simp only at hi hI
  unfold pc19l0
  rcases Nat.lt_or_ge i l.length with hil | hil
  · have hw : IntKind.i64.wrap ((i : Int) + 1) = ((i + 1 : Nat) : Int) := by rw [wrap64 (by omega) (by omega)]; omega
    rw [recsFrom_drop hil] at hI
    have hg := getD_map (f := Rec.row) hil
    generalize l[i] = x at hI hg
    have hok : recsFrom 0 l = false → AV.r (RV.b false) = AV.bo (captB l) := fun h => by simp [captB, h]
    have hcr := s_l14Record x last
    unfold Rec.av at hcr
    generalize (inB x.time last 4294967295 && decide (x.text.length ≤ 120)) = B at hI hcr
    simp only [hw, Int.toNat_natCast, hg, Rec.row, hm,go_sem,↓reduceIte]
    repeat' first | refine And.intro ?_ ?_ | intro _ | (refine call_pure (hP ▸ hcr) rfl rfl ?_; simp only [hw, Int.toNat_natCast, hg, Rec.row, hm,go_sem,↓reduceIte])
    all_goals first
      | omega
      | rfl
      | (rename_i hb; subst hb; refine hok ?_; rw [← hI]; rfl)
      | (rename_i hb; subst hb
         refine ⟨(i + 1, x.time), ⟨hil, by simpa using hI⟩, ?_, ?_⟩
         · simp only; omega
         · (refine le_ev [] ?_; simp only [hm,go_sem,↓reduceIte]; first | done | rfl | exact ⟨rfl, rfl⟩))
  · have : i = l.length := by omega
    subst this
    rw [List.drop_eq_nil_of_le (Nat.le_refl _)] at hI
    simp only [hm,go_sem,↓reduceIte]
    repeat' first | refine And.intro ?_ ?_ | intro _
    all_goals first
      | omega
      | (apply bo_inj; rw [Bool.eq_iff_iff]; simp only [captB, ← hI, recsFrom, Bool.true_and, decide_eq_true_eq]; omega)
end Go.Cap
namespace Go.Cap
theorem stepMon_records (m : Mon) (text : List UInt8) : (stepMon m text).records = m.records + 1 := by
  unfold stepMon beginMon note
  generalize packGet text = x
  obtain ⟨p, code⟩ := x
  simp only
  repeat' split
  all_goals rfl
def e5 (t : Talk) : Assoc := { aAt t t.all.length with state := 5 }
theorem recsFrom_iff : ∀ (last : Int) (l : List Rec), recsFrom last l = true ↔ (∀ x ∈ l, (last ≤ x.time ∧ x.time ≤ 4294967295) ∧ x.text.length ≤ 120) ∧ l.Pairwise (fun x y => x.time ≤ y.time)
  | last, [] => by simp [recsFrom]
  | last, x :: l => by
    simp only [recsFrom, inB, Bool.and_eq_true, decide_eq_true_eq, recsFrom_iff x.time l, List.pairwise_cons, List.mem_cons, forall_eq_or_imp]
    constructor
    · rintro ⟨⟨h1, h2⟩, h3, h4⟩
      exact ⟨⟨⟨h1, h2⟩, fun y hy => by have := h3 y hy; omega⟩, fun y hy => (h3 y hy).1.1, h4⟩
    · rintro ⟨⟨⟨h1, h2⟩, h3⟩, h4, h5⟩
      exact ⟨⟨h1, h2⟩, fun y hy => by have := h3 y hy; have := h4 y hy; omega, h5⟩
theorem monRun_eq {l : List Rec} (h : captB l = true) : monRun l = (l.map (·.text)).foldl stepMon noMon := by
  unfold monRun
  rw [if_pos h]
  rw [List.foldl_map]
section
variable {t : Talk} {begin : Int} (hv : talkB t = true) (hc : captB (recsOf (talkPk t) begin) = true)
include hv hc
end
end Go.Cap
namespace Go.Cap
attribute [local irreducible] Call Run Spec Le
theorem stepMon_found (m : Mon) (text : List UInt8) : (stepMon m text).found.length ≤ m.found.length + 12 := by
  unfold stepMon beginMon note
  generalize packGet text = x
  obtain ⟨p, code⟩ := x
  simp only
  repeat' split
  all_goals
    try simp only [List.length_append, List.length_map, List.length_cons, List.length_nil]
  all_goals first
    | omega
    | (have := rules_len ⟨p.fr, p.to, 0, false, noSide, noSide⟩ p; omega)
    | (rename_i k _ _; have := rules_len (assocAt m.list k) p; omega)
def monAt (l : List Rec) (i : Nat) : Mon := ((l.take i).map (·.text)).foldl stepMon noMon
theorem monAt_succ {l : List Rec} {i : Nat} (h : i < l.length) : monAt l (i + 1) = stepMon (monAt l i) l[i].text := by
  unfold monAt
  rw [take_get h, List.map_append, List.foldl_append]
  rfl
theorem monAt_inv {l : List Rec} (hl : l.length ≤ 60) : ∀ i, i ≤ l.length → monB (monAt l i) = true ∧ (monAt l i).records = i ∧ (monAt l i).found.length ≤ 12 * i
  | 0, _ => ⟨(by decide : monB noMon = true), rfl, Nat.le_refl _⟩
  | i + 1, hi => by
    obtain ⟨h1, h2, h3⟩ := monAt_inv hl i (by omega)
    rw [monAt_succ (show i < l.length by omega)]
    refine ⟨stepMon_valid h1 (by omega), by rw [stepMon_records]; omega, ?_⟩
    have := stepMon_found (monAt l i) l[i].text
    omega
theorem mon_fit {m : Mon} (h : monB m = true) (hf : m.found.length ≤ 1000) : MFit m := by
  obtain ⟨_, h2, h3, _⟩ := monB_iff.1 h
  refine ⟨by omega, by omega, fun a ha => ?_⟩
  have hw := assocB_AW ((listB_iff.1 h3).1 a ha).1
  have := hw.1.2
  have := hw.2.2
  refine ⟨⟨by omega, fun d hd => ?_⟩, ⟨by omega, fun d hd => ?_⟩⟩
  · have := data_ok (hw.1.2.2 d hd)
    omega
  · have := data_ok (hw.2.2.2 d hd)
    omega
def stepG (x : Mon) : AV → List (Nat × Blk) → Nat → List Nat → Prop := fun r hp nx gs =>
  (x = noMon ∧ r = .agg [.i 0, .r .nil, .r .nil] ∧ hp = [] ∧ nx = 0 ∧ gs = []) ∨
  (x.list = [] ∧ r = .agg [.i x.records, .r .nil, .sl 0 0 x.found.length] ∧ hp = [(0, .row 2 (x.found.map Fnd.row))] ∧ nx = 1 ∧ gs = []) ∨
  (∃ X : List AG, X.map AG.a = x.list ∧ OkG X gs ∧ r = .agg [.i x.records, .sl 1 0 X.length, .sl 0 0 x.found.length] ∧ hp = [(0, .row 2 (x.found.map Fnd.row)), (1, .row 14 (X.map AG.row))] ∧ nx = 2)
theorem s_implMonitorStepO (m : Mon) (text : List UInt8) (hf : MFit m) (ht : text.length ≤ 2000000) : Spec Tryz.prog 17 0 [] [m.ro, .st text] (stepG (monStep m text)) := by
  refine Spec.le (s_implMonitorStepG m text hf ht) fun r hp nx gs h => ?_
  obtain ⟨h⟩ := h
  generalize monStep m text = x at h
  rcases h with ⟨rfl, rfl⟩ | ⟨hl, b, rfl, h0⟩ | ⟨b, b1, X, hne, ⟨hX, hO⟩, rfl, h0, h1⟩
  · exact ⟨_, [], 0, [], .inl ⟨rfl, rfl, rfl, rfl, rfl⟩, fun c hc => le_ev [] (by simp only [hc,go_sem,↓reduceIte])⟩
  · exact ⟨_, _, 1, [], .inr (.inl ⟨hl, rfl, rfl, rfl, rfl⟩), fun c hc => le_ev [(0, b)] (by simp only [hc, go_sem, ↓reduceIte, h0])⟩
  · exact ⟨_, _, 2, gs, .inr (.inr ⟨X, hX, hO, rfl, rfl, rfl⟩), fun c hc => le_evg [(0, b), (1, b1)] rfl (by simp only [hc, go_sem, ↓reduceIte, h0, h1]; omega)⟩
theorem ag_weak (X : List AG) : WkL (X.map AG.row) ((X.map AG.a).map Assoc.row) := by
  refine ⟨by simp, fun i r r' h1 h2 => ?_, fun i j x x' h1 h2 => ?_⟩
  · rw [List.getElem?_map] at h1
    rw [List.getElem?_map, List.getElem?_map] at h2
    cases hi : X[i]? with
    | none => rw [hi] at h1; cases h1
    | some y => rw [hi] at h1 h2; cases h1; cases h2; rfl
  · rw [List.getElem?_map] at h1
    rw [List.getElem?_map, List.getElem?_map] at h2
    cases hi : X[i]? with
    | none => rw [hi] at h1; cases h1
    | some y =>
      rw [hi] at h1 h2
      have h1' : y.row[j]? = some x := h1
      have h2' : y.a.row[j]? = some x' := h2
      have hg : ∀ g (l : List Data), gc g (l.map Data.row) = .ro none (l.map Data.row) ∨ ∃ g' D, gc g (l.map Data.row) = .ro g' D ∧ RV.ro none (l.map Data.row) = .ro none D := fun g l => by
        cases l with
        | nil => exact .inl rfl
        | cons d l => exact .inr ⟨some g, _, rfl, rfl⟩
      unfold AG.row Assoc.cellsX at h1'
      unfold Assoc.row Assoc.cellsX at h2'
      match j, h1', h2' with
      | 0, h1, h2 => cases h1; cases h2; exact .inl rfl
      | 1, h1, h2 => cases h1; cases h2; exact .inl rfl
      | 2, h1, h2 => cases h1; cases h2; exact .inl rfl
      | 3, h1, h2 => cases h1; cases h2; exact .inl rfl
      | 4, h1, h2 => cases h1; cases h2; exact .inl rfl
      | 5, h1, h2 => cases h1; cases h2; exact .inl rfl
      | 6, h1, h2 => cases h1; cases h2; exact .inl rfl
      | 7, h1, h2 =>
        cases h1; cases h2
        rcases hg y.ga y.a.a.sent with e | ⟨g', D, e1, e2⟩
        · exact .inl e.symm
        · exact .inr ⟨g', D, e1, e2⟩
      | 8, h1, h2 => cases h1; cases h2; exact .inl rfl
      | 9, h1, h2 => cases h1; cases h2; exact .inl rfl
      | 10, h1, h2 => cases h1; cases h2; exact .inl rfl
      | 11, h1, h2 => cases h1; cases h2; exact .inl rfl
      | 12, h1, h2 =>
        cases h1; cases h2
        rcases hg y.gb y.a.b.sent with e | ⟨g', D, e1, e2⟩
        · exact .inl e.symm
        · exact .inr ⟨g', D, e1, e2⟩
      | 13, h1, h2 => cases h1; cases h2; exact .inl rfl
      | j + 14, h1, h2 => cases h1
theorem vw_list {hp : List (Nat × Blk)} {b : Nat} {X : List AG} (h : hget hp b = some (.row 14 (X.map AG.row))) : Vw hp (.sl b 0 X.length) (.r (.ro none ((X.map AG.a).map Assoc.row))) :=
  .weak _ _ _ (Vw.full h (by simp)) (ag_weak X)
theorem c_monitorStep {c : Cx} (hP : c.P = Tryz.prog) {s : St} {args : List AV} {K : AV → St → Prop} (m : Mon) (text : List UInt8) (hf : MFit m) (ht : text.length ≤ 2000000) (ha : Vws s.hp args [m.ro, .st text])
    (h0 : monStep m text = noMon → K (.agg [.i 0, .r .nil, .r .nil]) s)
    (h1 : (monStep m text).list = [] → K (.agg [.i (monStep m text).records, .r .nil, .sl s.nx 0 (monStep m text).found.length]) ⟨s.sl, (s.nx, .row 2 ((monStep m text).found.map Fnd.row)) :: s.hp, s.nx + 1, s.gs⟩)
    (h2 : ∀ X gs, X.map AG.a = (monStep m text).list → OkG X gs → K (.agg [.i (monStep m text).records, .sl (s.nx + 1) 0 X.length, .sl s.nx 0 (monStep m text).found.length]) ⟨s.sl, (s.nx, .row 2 ((monStep m text).found.map Fnd.row)) :: (s.nx + 1, .row 14 (X.map AG.row)) :: s.hp, s.nx + 2, gs ++ s.gs⟩) :
    Call c 17 args s K := by
  refine call_clg (hP ▸ s_implMonitorStepO m text hf ht) ha.spec fun r hp' nx' gs' hQ => ?_
  have hfc : ∀ (l : List Fnd) gs, closBG gs (.row 2 (l.map Fnd.row)) := fun l gs r hr x hx => by
    obtain ⟨f, _, rfl⟩ := List.mem_map.1 hr
    simp only [Fnd.row, List.mem_cons, List.not_mem_nil, or_false] at hx
    rcases hx with rfl | rfl <;> exact .inl rfl
  rcases hQ with ⟨e, rfl, rfl, rfl, rfl⟩ | ⟨e, rfl, rfl, rfl, rfl⟩ | ⟨X, hX, hO, rfl, rfl, rfl⟩
  · exact ⟨⟨rfl, fun p hp => by cases hp⟩, h0 e⟩
  · refine ⟨⟨rfl, fun p hp => ?_⟩, h1 e⟩
    simp only [List.mem_singleton] at hp
    subst hp
    exact hfc _ _
  · refine ⟨⟨rfl, fun p hp => ?_⟩, h2 X gs' hX hO⟩
    simp only [List.mem_cons, List.not_mem_nil, or_false] at hp
    rcases hp with rfl | rfl
    · exact hfc _ _
    · exact ag_clos hO
theorem OkG.right {X : List AG} {gs : List Nat} (h : OkG X gs) (l : List Nat) : OkG X (gs ++ l) := ⟨fun g hg => List.mem_append_left _ (h.1 g hg), fun hn => h.2 (List.nodup_append.1 hn).1⟩
def mrG (l : List Rec) (i : Nat) (x : Mon) (gs : List Nat) : Option (Option (List AG)) → St
  | none => ⟨[(2, .ptr 0 0 0), (3, .ptr 1 0 0), (11, .r (.ro none (l.map Rec.row))), (12, .i l.length), (13, .i i)], [(0, .var [.i 0, .r .nil, .r .nil]), (1, .var [.i 0, .r .nil, .r .nil])], 2, gs⟩
  | some none => ⟨[(2, .ptr 0 0 0), (3, .ptr 1 0 0), (11, .r (.ro none (l.map Rec.row))), (12, .i l.length), (13, .i i)], [(0, .var [.i 0, .r .nil, .r .nil]), (1, .var [.i x.records, .r .nil, .sl 2 0 x.found.length]), (2, .row 2 (x.found.map Fnd.row))], 3, gs⟩
  | some (some X) => ⟨[(2, .ptr 0 0 0), (3, .ptr 1 0 0), (11, .r (.ro none (l.map Rec.row))), (12, .i l.length), (13, .i i)], [(0, .var [.i 0, .r .nil, .r .nil]), (1, .var [.i x.records, .sl 3 0 X.length, .sl 2 0 x.found.length]), (2, .row 2 (x.found.map Fnd.row)), (3, .row 14 (X.map AG.row))], 4, gs⟩
def okS (x : Mon) (gs : List Nat) : Option (Option (List AG)) → Prop
  | none => x = noMon
  | some none => x.list = []
  | some (some X) => X.map AG.a = x.list ∧ OkG X gs
set_option maxHeartbeats 2000000 in
theorem s_implMonitorRunG (l : List Rec) : Spec Tryz.prog 8 0 [] [.r (.ro none (l.map Rec.row))] (RunQ (monRun l)) := by
  have hcv := s_implCaptureValid l
  refine mr8 rfl fun c hP hm => ?_
  unfold pc8
  refine run_seq (run_wpc _ _ _ _ _ ?_)
  simp only [hm,go_sem,↓reduceIte]
  refine run_seq (run_wpc _ _ _ _ _ ?_)
  simp only [hm,go_sem,↓reduceIte]
  refine run_seq (run_wpc _ _ _ _ _ ?_)
  simp only [hm,go_sem,↓reduceIte]
  refine call_pure (hP ▸ hcv) rfl rfl ?_
  cases hc : captB l
  · simp only [hm,go_sem,↓reduceIte]
    have : monRun l = noMon := by unfold monRun; rw [hc]; rfl
    exact ⟨.inl ⟨this, rfl⟩⟩
  simp only [hm,go_sem,↓reduceIte]
  have hcb := hc
  unfold captB at hcb
  simp only [Bool.and_eq_true, decide_eq_true_eq, recsFrom_iff] at hcb
  have hmr : monRun l = monAt l l.length := by rw [monRun_eq hc]; unfold monAt; rw [List.take_length]
  rw [hmr]
  refine run_seq (run_wpc _ _ _ _ _ ?_)
  simp only [hm,go_sem,↓reduceIte]
  try intro _
  refine run_exit 0 (fun t0 => ∃ sh gs, okS (monAt l l.length) gs sh ∧ t0 = (match sh with
    | none => ⟨[(2, .ptr 0 0 0), (3, .ptr 1 0 0)], [(0, .var [.i 0, .r .nil, .r .nil]), (1, .var [.i 0, .r .nil, .r .nil])], 2, gs⟩
    | some none => ⟨[(2, .ptr 0 0 0), (3, .ptr 1 0 0)], [(0, .var [.i 0, .r .nil, .r .nil]), (1, .var [.i (monAt l l.length).records, .r .nil, .sl 2 0 (monAt l l.length).found.length]), (2, .row 2 ((monAt l l.length).found.map Fnd.row))], 3, gs⟩
    | some (some X) => ⟨[(2, .ptr 0 0 0), (3, .ptr 1 0 0)], [(0, .var [.i 0, .r .nil, .r .nil]), (1, .var [.i (monAt l l.length).records, .sl 3 0 X.length, .sl 2 0 (monAt l l.length).found.length]), (2, .row 2 ((monAt l l.length).found.map Fnd.row)), (3, .row 14 (X.map AG.row))], 4, gs⟩)) ?_ ?_
  · refine lp_wpc (α := Nat × Option (Option (List AG)) × List Nat) (fun y => mrG l y.1 (monAt l y.1) y.2.2 y.2.1) (fun y => y.1 ≤ l.length ∧ okS (monAt l y.1) y.2.2 y.2.1) (fun y => l.length - y.1) (0, none, []) ⟨Nat.zero_le _, rfl⟩ (by unfold mrG; (refine le_evg [] (by first | rfl | simp) ?_; simp only [hm,go_sem,↓reduceIte]; first | done | rfl | exact ⟨rfl, rfl⟩)) ?_
    rintro ⟨i, sh, gs⟩ ⟨hi, hsh⟩
    simp only at hi hsh
    unfold pc8l0
    rcases Nat.lt_or_ge i l.length with hil | hil
    · have hw : IntKind.i64.wrap ((i : Int) + 1) = ((i + 1 : Nat) : Int) := by rw [wrap64 (by omega) (by omega)]; omega
      have hg := getD_map (f := Rec.row) hil
      obtain ⟨i1, i2, i3⟩ := monAt_inv hcb.2 i (by omega)
      have htx := (hcb.1.1 _ (List.getElem_mem hil)).2
      have hsu := monAt_succ hil
      have hfit := mon_fit i1 (by omega)
      have hms : monStep (monAt l i) l[i].text = monAt l (i + 1) := by rw [hsu]; unfold monStep; rw [i1, decide_eq_true (by omega)]; rfl
      have hrec := (monAt_inv hcb.2 (i + 1) hil).2.1
      have htx' : l[i].text.length ≤ 2000000 := by omega
      generalize l[i] = x at hg hms htx'
      clear hsu i1 i2 i3 htx
      have hc1 : ∀ {args : List AV} {s : St} {K : AV → St → Prop}, Vws s.hp args [(monAt l i).ro, .st x.text] →
          ((monAt l (i + 1)).list = [] → K (.agg [.i (monAt l (i + 1)).records, .r .nil, .sl s.nx 0 (monAt l (i + 1)).found.length]) ⟨s.sl, (s.nx, .row 2 ((monAt l (i + 1)).found.map Fnd.row)) :: s.hp, s.nx + 1, s.gs⟩) →
          (∀ X gs, X.map AG.a = (monAt l (i + 1)).list → OkG X gs → K (.agg [.i (monAt l (i + 1)).records, .sl (s.nx + 1) 0 X.length, .sl s.nx 0 (monAt l (i + 1)).found.length]) ⟨s.sl, (s.nx, .row 2 ((monAt l (i + 1)).found.map Fnd.row)) :: (s.nx + 1, .row 14 (X.map AG.row)) :: s.hp, s.nx + 2, gs ++ s.gs⟩) →
          Call c 17 args s K := fun hv k1 k2 => by
        refine c_monitorStep hP (monAt l i) x.text hfit htx' hv (fun e => ?_) ?_ ?_
        · rw [hms] at e; rw [e] at hrec; exact absurd hrec (by show ¬ ((0 : Int) = ((i + 1 : Nat) : Int)); omega)
        · rw [hms]; exact k1
        · rw [hms]; exact k2
      clear hms
      match sh, hsh with
      | none, hsh =>
        unfold okS at hsh
        have hro : (monAt l i).ro = .agg [.i 0, .r (.ro none []), .r (.ro none [])] := by rw [hsh]; rfl
        rw [hro] at hc1
        unfold mrG
        simp only [hw, Int.toNat_natCast, hg, Rec.row, hm,go_sem,↓reduceIte]
        repeat' first | refine And.intro ?_ ?_ | intro _
        all_goals first
          | omega
          | skip
        refine hc1 (.cons (vw_agg (.cons (.r _) (.cons Vw.nil (.cons Vw.nil .nil)))) (.cons (.r _) .nil)) (fun k1 => ?_) (fun X gs' k1 k2 => ?_)
        all_goals
          simp only [hw, Int.toNat_natCast, hg, Rec.row, hm,go_sem,↓reduceIte]
          try repeat' first | refine And.intro ?_ ?_ | intro _
        · refine ⟨(i + 1, some none, gs), ⟨hil, k1⟩, by simp only; omega, ?_⟩
          simp only
          first | (refine le_evg [(2, 2)] (by first | rfl | simp) ?_; simp only [hm,go_sem,↓reduceIte]; first | done | rfl | exact ⟨rfl, rfl⟩) | (refine le_evg [(2, 3)] (by first | rfl | simp) ?_; simp only [hm,go_sem,↓reduceIte]; first | done | rfl | exact ⟨rfl, rfl⟩)
        · refine ⟨(i + 1, some (some X), gs' ++ gs), ⟨hil, k1, k2.right gs⟩, by simp only; omega, ?_⟩
          simp only
          first | (refine le_evg [(2, 2), (3, 3)] (by first | rfl | simp) ?_; simp only [hm,go_sem,↓reduceIte]; first | done | rfl | exact ⟨rfl, rfl⟩) | (refine le_evg [(2, 3), (3, 4)] (by first | rfl | simp) ?_; simp only [hm,go_sem,↓reduceIte]; first | done | rfl | exact ⟨rfl, rfl⟩)
      | some none, hsh =>
        unfold okS at hsh
        have hro : (monAt l i).ro = .agg [.i (monAt l i).records, .r (.ro none []), .r (.ro none ((monAt l i).found.map Fnd.row))] := by unfold Mon.ro; rw [hsh]; rfl
        rw [hro] at hc1
        unfold mrG
        simp only [hw, Int.toNat_natCast, hg, Rec.row, hm,go_sem,↓reduceIte]
        repeat' first | refine And.intro ?_ ?_ | intro _
        all_goals first
          | omega
          | skip
        refine hc1 (.cons (vw_agg (.cons (.r _) (.cons Vw.nil (.cons (Vw.full rfl (by simp)) .nil)))) (.cons (.r _) .nil)) (fun k1 => ?_) (fun X gs' k1 k2 => ?_)
        all_goals
          simp only [hw, Int.toNat_natCast, hg, Rec.row, hm,go_sem,↓reduceIte]
          try repeat' first | refine And.intro ?_ ?_ | intro _
        · refine ⟨(i + 1, some none, gs), ⟨hil, k1⟩, by simp only; omega, ?_⟩
          simp only
          first | (refine le_evg [(2, 3)] (by first | rfl | simp) ?_; simp only [hm,go_sem,↓reduceIte]; first | done | rfl | exact ⟨rfl, rfl⟩) | (refine le_evg [(2, 4)] (by first | rfl | simp) ?_; simp only [hm,go_sem,↓reduceIte]; first | done | rfl | exact ⟨rfl, rfl⟩)
        · refine ⟨(i + 1, some (some X), gs' ++ gs), ⟨hil, k1, k2.right gs⟩, by simp only; omega, ?_⟩
          simp only
          first | (refine le_evg [(2, 3), (3, 4)] (by first | rfl | simp) ?_; simp only [hm,go_sem,↓reduceIte]; first | done | rfl | exact ⟨rfl, rfl⟩) | (refine le_evg [(2, 4), (3, 5)] (by first | rfl | simp) ?_; simp only [hm,go_sem,↓reduceIte]; first | done | rfl | exact ⟨rfl, rfl⟩)
      | some (some Y), hsh =>
        unfold okS at hsh
        obtain ⟨hY, hOY⟩ := hsh
        have hro : (monAt l i).ro = .agg [.i (monAt l i).records, .r (.ro none ((Y.map AG.a).map Assoc.row)), .r (.ro none ((monAt l i).found.map Fnd.row))] := by unfold Mon.ro; rw [hY]
        rw [hro] at hc1
        unfold mrG
        simp only [hw, Int.toNat_natCast, hg, Rec.row, hm,go_sem,↓reduceIte]
        repeat' first | refine And.intro ?_ ?_ | intro _
        all_goals first
          | omega
          | skip
        refine hc1 (.cons (vw_agg (.cons (.r _) (.cons (vw_list rfl) (.cons (Vw.full rfl (by simp)) .nil)))) (.cons (.r _) .nil)) (fun k1 => ?_) (fun X gs' k1 k2 => ?_)
        all_goals
          simp only [hw, Int.toNat_natCast, hg, Rec.row, hm,go_sem,↓reduceIte]
          try repeat' first | refine And.intro ?_ ?_ | intro _
        · refine ⟨(i + 1, some none, gs), ⟨hil, k1⟩, by simp only; omega, ?_⟩
          simp only
          first | (refine le_evg [(2, 4)] (by first | rfl | simp) ?_; simp only [hm,go_sem,↓reduceIte]; first | done | rfl | exact ⟨rfl, rfl⟩) | (refine le_evg [(2, 5)] (by first | rfl | simp) ?_; simp only [hm,go_sem,↓reduceIte]; first | done | rfl | exact ⟨rfl, rfl⟩)
        · refine ⟨(i + 1, some (some X), gs' ++ gs), ⟨hil, k1, k2.right gs⟩, by simp only; omega, ?_⟩
          simp only
          first | (refine le_evg [(2, 4), (3, 5)] (by first | rfl | simp) ?_; simp only [hm,go_sem,↓reduceIte]; first | done | rfl | exact ⟨rfl, rfl⟩) | (refine le_evg [(2, 5), (3, 6)] (by first | rfl | simp) ?_; simp only [hm,go_sem,↓reduceIte]; first | done | rfl | exact ⟨rfl, rfl⟩)
    · have hie : i = l.length := by omega
      subst hie
      match sh, hsh with
      | none, hsh =>
        unfold mrG
        simp only [hm,go_sem,↓reduceIte]
        repeat' first | refine And.intro ?_ ?_ | intro _
        all_goals first
          | omega
          | (refine ⟨_, ⟨none, gs, hsh, rfl⟩, ?_⟩; (refine le_evg [] (by first | rfl | simp) ?_; simp only [hm,go_sem,↓reduceIte]; first | done | rfl | exact ⟨rfl, rfl⟩))
      | some none, hsh =>
        unfold mrG
        simp only [hm,go_sem,↓reduceIte]
        repeat' first | refine And.intro ?_ ?_ | intro _
        all_goals first
          | omega
          | (refine ⟨_, ⟨some none, gs, hsh, rfl⟩, ?_⟩; (refine le_evg [] (by first | rfl | simp) ?_; simp only [hm,go_sem,↓reduceIte]; first | done | rfl | exact ⟨rfl, rfl⟩))
      | some (some X), hsh =>
        unfold mrG
        simp only [hm,go_sem,↓reduceIte]
        repeat' first | refine And.intro ?_ ?_ | intro _
        all_goals first
          | omega
          | (refine ⟨_, ⟨some (some X), gs, hsh, rfl⟩, ?_⟩; (refine le_evg [] (by first | rfl | simp) ?_; simp only [hm,go_sem,↓reduceIte]; first | done | rfl | exact ⟨rfl, rfl⟩))
  rintro t0 ⟨sh, gs, hsh, rfl⟩
  rw [if_pos rfl]
  refine run_wpc _ _ _ _ _ ?_
  match sh, hsh with
  | none, hsh =>
    simp only [hm,go_sem,↓reduceIte]
    exact ⟨.inl ⟨hsh, rfl⟩⟩
  | some none, hsh =>
    simp only [hm,go_sem,↓reduceIte]
    exact ⟨.inr (.inl ⟨hsh, 2, rfl, rfl⟩)⟩
  | some (some X), hsh =>
    simp only [hm,go_sem,↓reduceIte]
    exact ⟨.inr (.inr ⟨2, 3, X, by decide, hsh, rfl, rfl, rfl⟩)⟩
end Go.Cap
namespace Go.Cap
attribute [local irreducible] Call Run Spec
theorem s_implMonitorRunM (l : List Rec) : Spec Tryz.prog 8 0 [] [.r (.ro none (l.map Rec.row))] (OwnM (monRun l)) := s_ownM (s_implMonitorRunG l)
end Go.Cap
namespace Go.Cap
attribute [local irreducible] Call Run Spec Le
def markRec (n : Int) : Rec := ⟨n, markT (n + 1)⟩
theorem recClosed (l : List Rec) : closL2 (l.map Rec.row) := closL2_map (fun s x hx => by
  simp only [Rec.row, List.mem_cons, List.not_mem_nil, or_false] at hx
  rcases hx with rfl | rfl <;> rfl) l
theorem s_markRecordS (l : List Rec) (n : Int) (hn : 0 ≤ n ∧ n ≤ 1000) (hl : l.length ≤ 4000000) : Spec Tryz.prog 11 1 [(0, .row 2 (l.map Rec.row))] [.sl 0 0 l.length, .i n] (Named fun r B => r = .i (n + 2 * l.length) ∧ B = .row 2 ((marks markRec 2 l.length n).map Rec.row)) := by
  refine Spec.named ?_
  refine mk11 rfl fun c hP hm => ?_
  unfold pc11
  simp only [go_sem, ↓reduceIte]
  refine run_exit 0 (fun t0 => t0 = ⟨[(1, .i (n + 2 * l.length))], [(0, .row 2 ((marks markRec 2 l.length n).map Rec.row))], 1, []⟩) ?_ (fun t0 h => by rw [h]; simp only [go_sem, ↓reduceIte]; exact ⟨_, rfl, rfl, rfl⟩)
  refine lp_wpc (α := Nat) (fun i => ⟨[(0, .sl 0 0 l.length), (1, .i (n + 2 * i)), (5, .i i)], [(0, .row 2 ((marks markRec 2 i n).map Rec.row ++ (l.drop i).map Rec.row))], 1, []⟩) (fun i => i ≤ l.length) (fun i => l.length - i) 0 (Nat.zero_le _) (le_eq (by simp [marks])) ?_
  intro i hi
  unfold pc11l0
  rcases Nat.lt_or_ge i l.length with hil | hil
  · have hM : ((marks markRec 2 i n).map Rec.row).length = i := by rw [List.length_map, marks_len]
    have hA := congrArg (List.map Rec.row) (marks_succ markRec 2 i n)
    rw [List.map_append, List.map_cons, List.map_nil] at hA
    rw [mid_drop hil]
    generalize (marks markRec 2 i n).map Rec.row = A at hM hA
    have hBl : ((l.drop (i + 1)).map Rec.row).length = l.length - (i + 1) := by simp
    generalize hB : (l.drop (i + 1)).map Rec.row = B at hBl
    simp only [Int.toNat_natCast, mid_get hM, mid_set hM, mid_len, Rec.row,go_sem,↓reduceIte]
    simp (disch := omega) only [wrap64]
    intro _
    refine ⟨fun hlt => ?_, fun hge => absurd hge (by omega)⟩
    repeat' refine And.intro ?_ ?_
    all_goals first
      | omega
      | (refine call_pure (hP ▸ s_markText _ (by omega)) rfl rfl ?_
         simp only [Int.toNat_natCast, mid_get hM, mid_set hM, mid_len,go_sem,↓reduceIte]
         simp (disch := omega) only [wrap64]
         refine ⟨⟨by omega, by omega⟩, by omega, i + 1, hil, by omega, le_ev [] ?_⟩
         rw [hA, hB]
         simp only [hm, markRec, div3, Rec.row, List.append_assoc, Int.natCast_add, Int.mul_add, Int.add_assoc, Int.reduceAdd,go_sem,↓reduceIte]
         rfl)
  · have : i = l.length := by omega
    subst this
    simp only [go_sem, ↓reduceIte]
    exact fun _ => ⟨_, rfl, le_ev [] (by simp only [hm, List.drop_length,go_sem,↓reduceIte])⟩
theorem s_eqRecord (x : Rec) : Spec Tryz.prog 25 0 [] [x.av, x.av] (fun r _ _ _ => r = .bo true) := by
  refine mk25 rfl fun c hP hm => ?_
  unfold pc25 Rec.av
  simp only [go_sem, ↓reduceIte]
theorem s_eqRecordS (l : List Rec) : Spec Tryz.prog 10 0 [] [.r (.ro none (l.map Rec.row)), .r (.ro none (l.map Rec.row))] (fun r _ _ _ => r = .bo true) := by
  refine mk10 rfl fun c hP hm => ?_
  unfold pc10
  simp only [go_sem, ↓reduceIte]
  intro hlen _
  refine lp_wpc (α := Nat) (fun i => ⟨[(0, .r (.ro none (l.map Rec.row))), (1, .r (.ro none (l.map Rec.row))), (5, .i i)], [], 0, []⟩) (fun i => i ≤ l.length) (fun i => l.length - i) 0 (Nat.zero_le _) (Le.refl _) ?_
  intro i hi
  unfold pc10l0
  simp only [go_sem, ↓reduceIte]
  intro _
  intro hlt
  have hil : i < l.length := by omega
  simp only [Int.toNat_natCast, getD_map hil, Rec.row,go_sem,↓reduceIte]
  refine ⟨⟨by omega, by omega⟩, ⟨by omega, by omega⟩, ?_⟩
  refine call_pure (hP ▸ s_eqRecord l[i]) rfl rfl ?_
  simp only [go_sem, ↓reduceIte]
  rw [wrap64 (by omega) (by omega)]
  exact ⟨i + 1, hil, by omega, Le.refl _⟩
def szRecs (l : List Rec) (left : Int) : Int := if left - l.length < 0 then -1 else szTexts (l.map fun s => (s.text.length : Int)) (left - l.length)
theorem s_szRecord (s : Rec) (left : Int) (h : 0 ≤ left ∧ left ≤ 1048576) (ht : (s.text.length : Int) ≤ 9223372036854775807) : Spec Tryz.prog 18 0 [] [s.av, .i left] (fun r _ _ _ => r = .i (szText s.text.length left)) := by
  refine mk18 rfl fun c hP hm => ?_
  unfold pc18 Rec.av
  simp only [go_sem, ↓reduceIte]
  rw [wrap64 (by omega) (by omega)]
  unfold szText
  refine ⟨fun h => ?_, fun h => ?_⟩
  · rw [if_pos h]
  · rw [if_neg (by omega)]
theorem s_szRecordS (l : List Rec) (left : Int) (h : 0 ≤ left ∧ left ≤ 1048576) (hl : (l.length : Int) ≤ 9223372036854775807) (ht : ∀ s ∈ l, (s.text.length : Int) ≤ 9223372036854775807) :
    Spec Tryz.prog 5 0 [] [.r (.ro none (l.map Rec.row)), .i left] (fun r _ _ _ => r = .i (szRecs l left)) := by
  refine mk5 rfl fun c hP hm => ?_
  unfold pc5
  simp only [go_sem, ↓reduceIte]
  intro _
  rw [wrap64 (by omega) (by omega)]
  unfold szRecs
  refine ⟨fun h => ?_, fun h => ?_⟩
  · rw [if_pos h]
  · rw [if_neg (by omega)]
    refine lp_wpc (α := Nat × Int) (fun y => ⟨[(0, .r (.ro none (l.map Rec.row))), (1, .i y.2), (5, .i y.1)], [], 0, []⟩)
      (fun y => y.1 ≤ l.length ∧ 0 ≤ y.2 ∧ y.2 ≤ 1048576 ∧ szTexts ((l.map fun s => (s.text.length : Int)).drop y.1) y.2 = szTexts (l.map fun s => (s.text.length : Int)) (left - l.length)) (fun y => l.length - y.1) (0, left - l.length)
      ⟨Nat.zero_le _, by omega, by omega, rfl⟩ (Le.refl _) ?_
    rintro ⟨i, x⟩ ⟨hi, hx0, hx1, hx⟩
    unfold pc5l0
    simp only [go_sem, ↓reduceIte]
    intro _
    refine ⟨fun hlt => ?_, fun hge => ?_⟩
    · have hil : i < l.length := by omega
      rw [szTexts_drop (by simpa using hil)] at hx
      simp only [List.getElem_map] at hx
      simp only [Int.toNat_natCast, getD_map hil, Rec.row,go_sem,↓reduceIte]
      refine ⟨⟨by omega, by omega⟩, ?_⟩
      refine call_pure (hP ▸ s_szRecord l[i] x ⟨hx0, hx1⟩ (ht _ (List.getElem_mem hil))) rfl rfl ?_
      simp only [go_sem, ↓reduceIte]
      refine ⟨fun hneg => ?_, fun hpos => ?_⟩
      · rw [if_pos hneg] at hx; rw [← hx]
      · rw [if_neg (by omega)] at hx
        rw [wrap64 (by omega) (by omega)]
        have := szText_le l[i].text.length x (by omega)
        exact ⟨(i + 1, szText l[i].text.length x), ⟨hil, by omega, by omega, hx⟩, by simp only; omega, Le.refl _⟩
    · have : i = l.length := by omega
      subst this
      rw [List.drop_eq_nil_of_le (by simp)] at hx
      rw [← hx]; rfl
theorem szRecs_ok {l : List Rec} (h : 0 ≤ szRecs l 1048576) : l.length ≤ 1048576 ∧ ∀ s ∈ l, s.text.length ≤ 1048576 := by
  unfold szRecs at h
  split at h
  · omega
  · rename_i h1
    have hn : ∀ n ∈ l.map (fun s => (s.text.length : Int)), 0 ≤ n := fun n hm => by
      obtain ⟨s, _, rfl⟩ := List.mem_map.1 hm; omega
    have h2 := szTexts_spec _ _ hn h
    refine ⟨by omega, fun s hs => ?_⟩
    have := sum_mem _ hn s.text.length (List.mem_map.2 ⟨s, hs, rfl⟩)
    omega
theorem s_toRecord (x : Rec) : Spec Tryz.prog 21 0 [] [x.av] (fun r _ _ _ => r = x.av) := by
  refine mk21 rfl fun c hP hm => ?_
  unfold pc21 Rec.av
  simp only [go_sem, ↓reduceIte]
theorem s_toRecordS (l : List Rec) (hl : l.length ≤ 1048576) : Spec Tryz.prog 7 0 [] [.r (.ro none (l.map Rec.row))] (New1 (.sl 0 0 l.length) 2 (l.map Rec.row)) := by
  refine mk7 rfl fun c hP hm => ?_
  unfold pc7
  simp only [go_sem, ↓reduceIte]
  simp only [Int.toNat_natCast]
  intro _
  refine ⟨⟨by omega, by omega⟩, ?_⟩
  refine lp_wpc (α := Nat) (fun i => ⟨[(0, .r (.ro none (l.map Rec.row))), (3, .sl 0 0 l.length), (4, .i i)], [(0, .row 2 ((l.map Rec.row).take i ++ List.replicate ((l.map Rec.row).length - i) [.n .i64 0, .s []]))], 1, []⟩)
    (fun i => i ≤ l.length) (fun i => l.length - i) 0 (Nat.zero_le _) (le_eq (by simp)) ?_
  intro i hi
  unfold pc7l0
  simp only [go_sem, ↓reduceIte]
  intro _
  refine ⟨fun hlt => ?_, fun hge => ?_⟩
  · have hil : i < l.length := by omega
    simp only [Int.toNat_natCast, getD_map hil, Rec.row,go_sem,↓reduceIte]
    refine ⟨⟨by omega, by omega⟩, ?_⟩
    refine call_pure (hP ▸ s_toRecord l[i]) rfl rfl ?_
    simp only [Rec.av, go_sem, ↓reduceIte, Int.toNat_natCast]
    refine ⟨⟨by omega, by omega⟩, ?_, i + 1, hil, by omega, le_eq ?_⟩
    · simp; omega
    · have h1 := fill_set (M := l.map Rec.row) (z := [.n .i64 0, .s []]) (i := i) (by simpa using hil)
      simp only [List.getElem_map, Rec.row, List.length_map] at h1
      try simp only [List.length_map]
      rw [wrap64 (by omega) (by omega), ← h1]
      rfl
  · have : i = l.length := by omega
    subst this
    refine ⟨rfl, ?_, rfl, rfl⟩
    simp
    exact List.take_of_length_le (by simp)
theorem s_toRecordSP (l : List Rec) (hl : l.length ≤ 1048576) : Spec Tryz.prog 7 0 [] [.r (.ro none (l.map Rec.row))] (Plain fun r => r = .r (.ro none (l.map Rec.row))) := by
  have := s_toRecordS l hl
  rw [← List.length_map (f := Rec.row)] at this
  exact this.dataP
def recRow : List CT := [.i .i64, .s]
theorem recs_of {L : List (List RV)} (h : Okc (.sl recRow) (.ro none L)) : ∃ l : List Rec, L = l.map Rec.row ∧ l.length ≤ maxLen ∧ ∀ x ∈ l, x.text.length ≤ maxLen := by
  obtain ⟨L', e, hl, hr⟩ := okc_sl h
  cases e
  have key : ∀ L : List (List RV), (∀ r ∈ L, RowOk recRow r) → ∃ l : List Rec, L = l.map Rec.row ∧ ∀ x ∈ l, x.text.length ≤ maxLen := by
    intro L
    induction L with
    | nil => exact fun _ => ⟨[], rfl, fun x hx => (List.not_mem_nil hx).elim⟩
    | cons r L ih =>
      intro h
      obtain ⟨l, e, hl⟩ := ih fun r hr => h r (List.mem_cons_of_mem _ hr)
      obtain ⟨x0, r1, e1, h0, h1⟩ := rowOk_cons (h r (List.mem_cons_self ..))
      obtain ⟨x1, r2, e2, h1, h2⟩ := rowOk_cons h1
      have := rowOk_nil h2
      obtain ⟨n, e3, _⟩ := okc_i h0
      obtain ⟨t, e4, ht⟩ := okc_s h1
      refine ⟨⟨n, t⟩ :: l, by rw [e1, e2, this, e3, e4, e]; rfl, fun x hx => ?_⟩
      rcases List.mem_cons.1 hx with rfl | hx
      · exact ht
      · exact hl x hx
  obtain ⟨l, e, h⟩ := key L hr
  exact ⟨l, e, by rw [e, List.length_map] at hl; exact hl, h⟩
theorem monAt_MW {l : List Rec} (hl : l.length ≤ 60) {i : Nat} (hi : i ≤ l.length) : MW (20 * i) (monAt l i) := by
  obtain ⟨h1, h2, h3⟩ := monAt_inv hl i hi
  obtain ⟨_, v2, v3, _⟩ := monB_iff.1 h1
  exact ⟨v2, fun a ha => assocB_AW ((listB_iff.1 v3).1 a ha).1, by omega⟩
theorem s_specMonitorRun (l : List Rec) (ht : ∀ x ∈ l, x.text.length ≤ 2000000) (hl : l.length ≤ 2000000) :
    Spec Tryz.prog 6 0 [] [.r (.ro none (l.map Rec.row))] (Plain fun r => r = (monRun l).ro) := by
  refine Spec.le (Q := fun r hp _ _ => r = (monRun l).ro) ?_ ?_
  · refine mr6 rfl fun c hP hm => ?_
    unfold pc6
    refine run_seq (run_wpc _ _ _ _ _ ?_)
    simp only [hm,go_sem,↓reduceIte]
    refine run_seq (run_wpc _ _ _ _ _ ?_)
    simp only [hm,go_sem,↓reduceIte]
    refine run_frz 1 rfl (by first | (simp only [hm, List.length_map,go_sem,↓reduceIte]; done) | (simp only [hm, List.length_map,go_sem,↓reduceIte]; omega)) (by first | (simp only [hm, List.length_map,go_sem,↓reduceIte]; done) | (simp only [hm, List.length_map,go_sem,↓reduceIte]; omega)) ?_; simp only [hm, take_map_len, List.drop_zero,go_sem,↓reduceIte]
    refine run_frz 2 rfl (by first | (simp only [hm, List.length_map,go_sem,↓reduceIte]; done) | (simp only [hm, List.length_map,go_sem,↓reduceIte]; omega)) (by first | (simp only [hm, List.length_map,go_sem,↓reduceIte]; done) | (simp only [hm, List.length_map,go_sem,↓reduceIte]; omega)) ?_; simp only [hm, take_map_len, List.drop_zero,go_sem,↓reduceIte]
    refine run_wpc _ _ _ _ _ ?_
    simp only [hm,go_sem,↓reduceIte]
    refine run_exit 0 (fun t0 => t0 = ⟨[(2, .ptr 0 0 0), (3, .ptr 3 0 0)], [(3, .var [.i (monRun l).records, .r (.ro none ((monRun l).list.map Assoc.row)), .r (.ro none ((monRun l).found.map Fnd.row))]), (0, .var [.i 0, .r .nil, .r .nil])], 4, []⟩) ?_ ?_
    rotate_left
    · rintro t0 rfl
      simp only [hm,go_sem,↓reduceIte]
      rfl
    refine lp_wpc (α := Nat) (fun i => ⟨[(0, .r (.ro none (l.map Rec.row))), (2, .ptr 0 0 0), (3, .ptr 3 0 0), (4, .i i)], [(3, .var [.i (monAt l i).records, .r (.ro none ((monAt l i).list.map Assoc.row)), .r (.ro none ((monAt l i).found.map Fnd.row))]), (0, .var [.i 0, .r .nil, .r .nil])], 4, []⟩)
      (fun i => i ≤ l.length ∧ (0 < i → captB l = true)) (fun i => l.length - i) 0 ⟨Nat.zero_le _, fun h => absurd h (Nat.lt_irrefl 0)⟩ (by rw [show monAt l 0 = noMon from rfl]; simp only [noMon, List.map_nil]; (refine le_ev [] ?_; simp only [hm,go_sem,↓reduceIte]; first | done | rfl | exact ⟨rfl, rfl⟩)) ?_
    rintro i ⟨h1, h4⟩
    unfold pc6l0
    have hcap : captB l = true → l.length ≤ 60 := fun h => by
      unfold captB at h
      simp only [Bool.and_eq_true, decide_eq_true_eq] at h
      exact h.2
    have hend : captB l = true → monRun l = monAt l l.length := fun h => by rw [monRun_eq h]; unfold monAt; rw [List.take_length]
    rcases Nat.lt_or_ge i l.length with hil | hil
    · have hw1 : IntKind.i64.wrap ((i : Int) + 1) = ((i + 1 : Nat) : Int) := by rw [wrap64 (by omega) (by omega)]; omega
      have hg := getD_map (f := Rec.row) hil
      have hxt := ht _ (List.getElem_mem hil)
      have hsu := monAt_succ hil
      generalize l[i] = x at hg hxt hsu
      cases hb : captB l
      · have hi0 : i = 0 := by
          rcases Nat.eq_zero_or_pos i with h | h
          · exact h
          · rw [h4 h] at hb; cases hb
        have hmn : monRun l = monAt l i := by rw [hi0]; unfold monRun; rw [hb]; rfl
        simp only [hw1, Int.toNat_natCast, hg, Rec.row, hm,go_sem,↓reduceIte]
        repeat' first
          | refine And.intro ?_ ?_
          | intro _
          | (refine call_pure (hP ▸ s_specCaptureValid l (by omega)) rfl rfl ?_; simp only [hb, hw1, Int.toNat_natCast, hg, Rec.row, hm,go_sem,↓reduceIte])
        all_goals first
          | omega
          | (refine ⟨_, rfl, ?_⟩; rw [hmn]; (refine le_ev [] ?_; simp only [hm,go_sem,↓reduceIte]; first | done | rfl | exact ⟨rfl, rfl⟩))
      · have h60 := hcap hb
        obtain ⟨i1, i2, i3⟩ := monAt_inv h60 i (by omega)
        have hst := s_l32StepX (monAt l i) x.text (20 * i) (by omega) (monAt_MW h60 (by omega)) (by omega) hxt
        rw [← hsu] at hst
        unfold Mon.ro at hst
        simp only [hw1, Int.toNat_natCast, hg, Rec.row, hm,go_sem,↓reduceIte]
        repeat' first
          | refine And.intro ?_ ?_
          | intro _
          | (refine call_pure (hP ▸ s_specCaptureValid l (by omega)) rfl rfl ?_; simp only [hb, hw1, Int.toNat_natCast, hg, Rec.row, hm,go_sem,↓reduceIte])
          | (refine call_dataP (hP ▸ hst) rfl rfl ?_; simp only [hw1, hm,go_sem,↓reduceIte])
        all_goals first
          | omega
          | (refine ⟨i + 1, ⟨hil, fun _ => rfl⟩, by omega, ?_⟩; (refine le_ev [] ?_; simp only [hm,go_sem,↓reduceIte]; first | done | rfl | exact ⟨rfl, rfl⟩))
          | (refine ⟨i + 1, ⟨hil, fun _ => hb⟩, by omega, ?_⟩; (refine le_ev [] ?_; simp only [hm,go_sem,↓reduceIte]; first | done | rfl | exact ⟨rfl, rfl⟩))
          | (refine ⟨i + 1, hil, by omega, ?_⟩; (refine le_ev [] ?_; simp only [hm,go_sem,↓reduceIte]; first | done | rfl | exact ⟨rfl, rfl⟩))
    · have hie : i = l.length := by omega
      have hmn : monRun l = monAt l i := by
        rcases Nat.eq_zero_or_pos i with h | h
        · have hl0 : l = [] := List.length_eq_zero_iff.1 (by omega)
          rw [hl0]
          have : ∀ j, monAt [] j = noMon := fun j => by unfold monAt; simp
          rw [this]
          unfold monRun
          split <;> rfl
        · rw [hend (h4 h), hie]
      subst hie
      simp only [hm,go_sem,↓reduceIte]
      repeat' first | refine And.intro ?_ ?_ | intro _
      all_goals first
        | omega
        | (refine ⟨_, rfl, ?_⟩; rw [hmn]; (refine le_ev [] ?_; simp only [hm,go_sem,↓reduceIte]; first | done | rfl | exact ⟨rfl, rfl⟩))
  · rintro r hp nx gs rfl
    refine ⟨_, [], 0, [], ⟨rfl, rfl, rfl, rfl⟩, fun c hc => ?_⟩
    unfold Mon.ro
    exact le_ev [] (by simp only [hc,go_sem,↓reduceIte])
end Go.Cap
