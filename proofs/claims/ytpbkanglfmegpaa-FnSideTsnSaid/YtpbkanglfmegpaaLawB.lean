import Derived.Test.YtpbkanglfmegpaaEngC
import Derived.Test.YtpbkanglfmegpaaLawA
import Derived.Test.YtpbkanglfmegpaaPc
/- Contracts: numbers as bytes; chunks of parts, inits and receipts, twice. -/
namespace Go.Cap
open Go Go.Proofs
set_option maxRecDepth 100000
set_option linter.unusedSimpArgs false
set_option linter.unusedVariables false
attribute [local irreducible] Call Run Spec Le

theorem wrap_u8 (x : Int) : IntKind.u8.wrap x = x % 256 := by
  simp only [IntKind.wrap, IntKind.bits, IntKind.signed]
  first | rfl | (simp; done) | omega
theorem byteOf_u8 (x : Int) : byteOf [.n .u8 x] = u8 x := rfl
theorem wt {n : Int} (h : 0 ≤ n ∧ n < 65536) : [byteOf [.n .u8 (IntKind.u8.wrap (IntKind.i64.wrap (n.tdiv 256)))], byteOf [.n .u8 (IntKind.u8.wrap (n.tmod 256))]] = word n := by
  have h1 : n.tdiv 256 = n / 256 := Int.tdiv_eq_ediv_of_nonneg h.1
  have h2 : n.tmod 256 = n % 256 := Int.tmod_eq_emod_of_nonneg h.1
  simp only [byteOf_u8, wrap_u8, h1, h2, word]
  rw [wrap64 (by omega) (by omega), Int.emod_eq_of_lt (a := n / 256) (by omega) (by omega), Int.emod_emod_of_dvd _ (by decide)]
theorem s_l1Word (n : Int) (h : 0 ≤ n ∧ n < 65536) : Spec Try.prog 113 0 [] [.i n] (fun r _ _ _ => r = .st (word n)) := by
  refine mk113 rfl fun c hP hm => ?_
  unfold pc113
  simp only [hm, go_sem, ↓reduceIte]
  repeat' first | refine And.intro ?_ ?_ | intro _
  all_goals first
    | omega
    | (rename_i hr; rcases hr with rfl | rfl <;> exact ⟨_, rfl⟩)
    | rw [wt h]
theorem s_l1Long (n : Int) (h : 0 ≤ n ∧ n < 4294967296) : Spec Try.prog 116 0 [] [.i n] (fun r _ _ _ => r = .st (long n)) := by
  refine mk116 rfl fun c hP hm => ?_
  unfold pc116
  have h1 : n.tdiv 65536 = n / 65536 := Int.tdiv_eq_ediv_of_nonneg h.1
  have h2 : n.tmod 65536 = n % 65536 := Int.tmod_eq_emod_of_nonneg h.1
  have h3 : IntKind.i64.wrap (n / 65536) = n / 65536 := wrap64 (by omega) (by omega)
  simp only [h1, h2, h3, hm, go_sem, ↓reduceIte]
  refine call_pure (hP ▸ s_l1Word (n / 65536) (by omega)) rfl rfl ?_
  simp only [h1, h2, h3, hm, go_sem, ↓reduceIte]
  refine call_pure (hP ▸ s_l1Word (n % 65536) (by omega)) rfl rfl ?_
  simp only [word_len, hm, go_sem, ↓reduceIte]
  first | done | rfl | exact ⟨by decide, rfl⟩
theorem s_l12Bit (b : Bool) (n : Int) : Spec Try.prog 112 0 [] [.bo b, .i n] (fun r _ _ _ => r = .i (bit b n)) := by
  refine mk112 rfl fun c hP hm => ?_
  unfold pc112 bit
  cases b <;> simp only [hm, go_sem, ↓reduceIte]
theorem s_specDataPut (d : Data) (h : dataB d = true) : Spec Try.prog 99 0 [] [d.av] (fun r _ _ _ => r = .tup [(dataPut d).av, .bo true]) := by
  obtain ⟨h1, h2, h3, h4⟩ := data_ok h
  refine mk99 rfl fun c hP hm => ?_
  unfold pc99 Data.av
  simp only [hm, go_sem, ↓reduceIte]
  refine call_pure (hP ▸ s_l12Data d (by omega)) rfl rfl ?_
  rw [h]
  have hb : ∀ (b : Bool) (n : Int), n = 1 ∨ n = 2 ∨ n = 4 → 0 ≤ bit b n ∧ bit b n ≤ n := fun b n hn => by cases b <;> simp [bit] <;> omega
  have q1 := hb d.last 1 (by simp)
  have q2 := hb d.first 2 (by simp)
  have q3 := hb d.loose 4 (by simp)
  have e1 : IntKind.i64.wrap (bit d.last 1 + bit d.first 2) = bit d.last 1 + bit d.first 2 := wrap64 (by omega) (by omega)
  have e2 : IntKind.i64.wrap (bit d.last 1 + bit d.first 2 + bit d.loose 4) = bit d.last 1 + bit d.first 2 + bit d.loose 4 := wrap64 (by omega) (by omega)
  simp only [e1, e2, hm, go_sem, ↓reduceIte]
  repeat' first | refine And.intro ?_ ?_ | intro _ | (refine call_pure (hP ▸ s_l12Bit d.last 1) rfl rfl ?_; simp only [e1, e2, hm, go_sem, ↓reduceIte]) | (refine call_pure (hP ▸ s_l12Bit d.first 2) rfl rfl ?_; simp only [e1, e2, hm, go_sem, ↓reduceIte]) | (refine call_pure (hP ▸ s_l12Bit d.loose 4) rfl rfl ?_; simp only [e1, e2, hm, go_sem, ↓reduceIte]) | (refine call_pure (hP ▸ s_l1Word d.tsn h1) rfl rfl ?_; simp only [word_len, List.length_append, hm, go_sem, ↓reduceIte]) | (refine call_pure (hP ▸ s_l1Word d.stream h2) rfl rfl ?_; simp only [word_len, List.length_append, hm, go_sem, ↓reduceIte]) | (refine call_pure (hP ▸ s_l1Word d.ssn h3) rfl rfl ?_; simp only [word_len, List.length_append, hm, go_sem, ↓reduceIte])
  all_goals first
    | omega
    | rfl
theorem s_specInitPut (x : Init) (b : Bool) (h : initB x = true) : Spec Try.prog 111 0 [] [x.av, .bo b] (fun r _ _ _ => r = .tup [(initPut x b).av, .bo true]) := by
  have h' := h
  simp only [initB, serialB, Bool.and_eq_true, decide_eq_true_eq] at h'
  refine mk111 rfl fun c hP hm => ?_
  unfold pc111 Init.av
  simp only [hm, go_sem, ↓reduceIte]
  refine call_pure (hP ▸ s_l12Init x) rfl rfl ?_
  rw [h]
  simp only [hm, go_sem, ↓reduceIte]
  repeat' first | refine And.intro ?_ ?_ | intro _ | (refine call_pure (hP ▸ s_l1Long x.tag (by omega)) rfl rfl ?_; simp only [word_len, long_len, List.length_append, hm, go_sem, ↓reduceIte]) | (refine call_pure (hP ▸ s_l1Word x.window (by omega)) rfl rfl ?_; simp only [word_len, long_len, List.length_append, hm, go_sem, ↓reduceIte]) | (refine call_pure (hP ▸ s_l1Word x.streams (by omega)) rfl rfl ?_; simp only [word_len, long_len, List.length_append, hm, go_sem, ↓reduceIte]) | (refine call_pure (hP ▸ s_l1Word x.tsn (by omega)) rfl rfl ?_; simp only [word_len, long_len, List.length_append, hm, go_sem, ↓reduceIte])
  all_goals first
    | omega
    | rfl
    | (subst_vars; rfl)
def Sack.ro (s : Sack) : AV := .agg [.i s.cum, .r (.ro none (s.gaps.map Gap.row))]
theorem gapsB_drop {l : List Gap} {i : Nat} (h : i < l.length) (last : Int) : gapsB last (l.drop i) = (decide (last + 2 ≤ l[i].fr ∧ l[i].fr ≤ l[i].to ∧ l[i].to ≤ 16) && gapsB l[i].to (l.drop (i + 1))) := by
  rw [List.drop_eq_getElem_cons h]; rfl
theorem s_l12Sack (s : Sack) (hl : s.gaps.length ≤ 2000000) : Spec Try.prog 114 0 [] [s.ro] (fun r _ _ _ => r = .bo (sackB s)) := by
  refine mr114 rfl fun c hP hm => ?_
  unfold pc114 Sack.ro
  refine run_seq (run_wpc _ _ _ _ _ ?_)
  simp only [hm, go_sem, ↓reduceIte]
  refine run_seq (run_wpc _ _ _ _ _ ?_)
  simp only [hm, go_sem, ↓reduceIte]
  refine run_seq (run_wpc _ _ _ _ _ ?_)
  simp only [hm, go_sem, ↓reduceIte]
  refine run_exit 0 (fun t0 => t0 = ⟨[(1, .ptr 0 0 0)], [(0, .var [.i s.cum, .r (.ro none (s.gaps.map Gap.row))])], 1, []⟩ ∧ gapsB 0 s.gaps = true) ?_ ?_
  · refine lp_wpc (α := Nat × Int) (fun y => ⟨[(1, .ptr 0 0 0), (3, .i y.2), (4, .i y.1)], [(0, .var [.i s.cum, .r (.ro none (s.gaps.map Gap.row))])], 1, []⟩)
      (fun y => y.1 ≤ s.gaps.length ∧ 0 ≤ y.2 ∧ y.2 ≤ 16 ∧ gapsB y.2 (s.gaps.drop y.1) = gapsB 0 s.gaps) (fun y => s.gaps.length - y.1) (0, 0) ⟨Nat.zero_le _, by simp, by simp, rfl⟩ (by (refine le_ev [] ?_; simp only [hm, go_sem, ↓reduceIte]; first | done | rfl | exact ⟨rfl, rfl⟩)) ?_
    rintro ⟨i, last⟩ ⟨hi, hb0, hb1, hI⟩
    simp only at hi hb0 hb1 hI
    unfold pc114l0
    rcases Nat.lt_or_ge i s.gaps.length with hil | hil
    · have hw : IntKind.i64.wrap ((i : Int) + 1) = ((i + 1 : Nat) : Int) := by rw [wrap64 (by omega) (by omega)]; omega
      have hw2 : IntKind.i64.wrap (last + 2) = last + 2 := wrap64 (by omega) (by omega)
      rw [gapsB_drop hil] at hI
      have hg := getD_map (f := Gap.row) hil
      generalize s.gaps[i] = g at hI hg
      have hok : gapsB 0 s.gaps = false → AV.r (RV.b false) = AV.bo (sackB s) := fun h => by simp [sackB, h]
      simp only [hw, hw2, Int.toNat_natCast, hg, Gap.row, hm, go_sem, ↓reduceIte]
      repeat' first | refine And.intro ?_ ?_ | intro _
      all_goals first
        | omega
        | rfl
        | (refine hok ?_; rw [← hI, decide_eq_false (by omega)]; rfl)
        | (rw [decide_eq_true (by omega), Bool.true_and] at hI
           refine ⟨(i + 1, g.to), ⟨hil, ?_, ?_, hI⟩, ?_, ?_⟩
           · simp only; omega
           · simp only; omega
           · simp only; omega
           · (refine le_ev [] ?_; simp only [hm, go_sem, ↓reduceIte]; first | done | rfl | exact ⟨rfl, rfl⟩))
    · have : i = s.gaps.length := by omega
      subst this
      rw [List.drop_eq_nil_of_le (Nat.le_refl _)] at hI
      simp only [hm, go_sem, ↓reduceIte]
      repeat' first | refine And.intro ?_ ?_ | intro _
      all_goals first
        | omega
        | (refine ⟨_, ⟨rfl, hI.symm⟩, ?_⟩; (refine le_ev [] ?_; simp only [hm, go_sem, ↓reduceIte]; first | done | rfl | exact ⟨rfl, rfl⟩))
  rintro t0 ⟨rfl, hG⟩
  refine run_wpc _ _ _ _ _ ?_
  simp only [hm, go_sem, ↓reduceIte]
  repeat' first | refine And.intro ?_ ?_ | intro _ | (refine c_l3Ok hP ?_; simp only [hm, go_sem, ↓reduceIte])
  all_goals first
    | (apply bo_inj; simp [sackB, *]; done)
    | (apply bo_inj; rw [Bool.eq_iff_iff]; simp [sackB, *]; omega)
theorem s_specSackPut0 (n : Int) (h : 0 ≤ n ∧ n < 65536) : Spec Try.prog 100 0 [] [.agg [.i n, .r .nil]] (fun r _ _ _ => r = .tup [(sackPut ⟨n, []⟩).av, .bo true]) := by
  have hs : sackB ⟨n, []⟩ = true := by simp [sackB, serialB, gapsB, h]
  refine mk100 rfl fun c hP hm => ?_
  unfold pc100
  simp only [hm, go_sem, ↓reduceIte]
  refine call_flat (hP ▸ s_l12Sack ⟨n, []⟩ (by simp)) rfl (.cons (vw_agg (.cons (vw_self _ _ rfl) (.cons Vw.nil .nil))) .nil) ?_
  simp only [hs, hm, go_sem, ↓reduceIte]
  refine call_pure (hP ▸ s_l1Word n h) rfl rfl ?_
  simp only [hm, go_sem, ↓reduceIte]
  refine lp_wpc (α := Unit) (fun _ => ⟨[(1, .ptr 0 0 0), (2, .ptr 1 0 0), (4, .st (word n)), (5, .i 0)], [(0, .var [.i n, .r .nil]), (1, .var [.i 0, .i 0, .st []])], 2, []⟩) (fun _ => True) (fun _ => 0) () trivial (by (refine le_ev [] ?_; simp only [hm, go_sem, ↓reduceIte]; first | done | rfl | exact ⟨rfl, rfl⟩)) ?_
  intro _ _
  unfold pc100l0
  simp only [hm, go_sem, ↓reduceIte]
  repeat' first | refine And.intro ?_ ?_ | intro _
  all_goals first
    | omega
    | (simp [sackPut, Chunk.av]; done)
end Go.Cap

/- Contracts: associations are valid, twice. -/
namespace Go.Cap
open Go Go.Proofs
set_option maxRecDepth 100000
set_option linter.unusedSimpArgs false
set_option linter.unusedVariables false
attribute [local irreducible] Call Run Spec Le

def SFit (s : Side) : Prop := s.sent.length ≤ 2000000 ∧ ∀ d ∈ s.sent, d.text.length ≤ 9223372036854775807
theorem s_l31Open (n : Int) : Spec Try.prog 48 0 [] [.i n] (fun r _ _ _ => r = .bo (inB n 3 7)) := by
  refine mk48 rfl fun c hP hm => ?_
  unfold pc48
  simp only [hm, go_sem, ↓reduceIte]
  refine c_l6In hP ?_
  simp only [hm, go_sem, ↓reduceIte]
theorem s_specAssocValid (a : Assoc) (ha : SFit a.a) (hb : SFit a.b) : Spec Try.prog 21 0 [] [a.ro] (fun r _ _ _ => r = .bo (assocB a)) := by
  refine mk21 rfl fun c hP hm => ?_
  unfold pc21 Assoc.ro Assoc.av
  have ka := ha.1
  have kb := hb.1
  have hw : IntKind.i64.wrap ((a.a.sent.length : Int) + (a.b.sent.length : Int)) = (a.a.sent.length : Int) + a.b.sent.length := wrap64 (by omega) (by omega)
  have hif := @assocB_iff a
  simp only [hw, hm, go_sem, ↓reduceIte]
  repeat' first | refine And.intro ?_ ?_ | intro _ | (refine c_l6In hP ?_; simp only [hw, hm, go_sem, ↓reduceIte]) | (refine call_pure (hP ▸ s_l31Open a.state) rfl rfl ?_; simp only [hw, hm, go_sem, ↓reduceIte]) | (refine call_pure (hP ▸ s_specSideValid a.a ha.1 ha.2) rfl rfl ?_; simp only [hw, hm, go_sem, ↓reduceIte]; cases hsa : sideB a.a <;> simp only [hw, hm, go_sem, ↓reduceIte]) | (refine call_pure (hP ▸ s_specSideValid a.b hb.1 hb.2) rfl rfl ?_; simp only [hw, hm, go_sem, ↓reduceIte]; cases hsb : sideB a.b <;> simp only [hw, hm, go_sem, ↓reduceIte])
  all_goals first
    | omega
    | (apply bo_inj
       rw [Bool.eq_iff_iff, hif]
       clear hif ha hb hP hm hw
       first
         | (simp_all; done)
         | (simp_all; omega)
         | (simp only [decide_eq_decide, inB, decide_eq_true_eq, decide_eq_false_iff_not] at *; simp only [true_iff]; refine ⟨by omega, by omega, by omega, by omega, by assumption, by assumption, by omega, by omega, by omega, ?_⟩; first | exact .inl (by assumption) | exact .inr (by omega))
         | (simp only [decide_eq_decide, inB, decide_eq_true_eq, decide_eq_false_iff_not] at *
            constructor
            · intro h5
              refine ⟨by omega, by omega, by omega, by omega, by assumption, by assumption, by omega, by omega, by omega, .inr h5⟩
            · rintro ⟨g1, g2, g3, g4, g5, g6, g7, g8, g9, g10⟩
              rcases g10 with g | g
              · simp_all
                done
              · exact g)
         | (simp only [decide_eq_decide, inB, decide_eq_true_eq, decide_eq_false_iff_not] at *; simp only [Bool.false_eq_true, false_iff]; rintro ⟨g1, g2, g3, g4, g5, g6, g7, g8, g9, g10⟩; first | omega | (simp_all; done) | (simp_all; omega)))
end Go.Cap

/- Contracts: findings; monitors are valid (the program's). -/
namespace Go.Cap
open Go Go.Proofs
set_option maxRecDepth 100000
set_option linter.unusedSimpArgs false
set_option linter.unusedVariables false
attribute [local irreducible] Call Run Spec Le

structure MFit (m : Mon) : Prop where
  nl : m.list.length ≤ 2000000
  nf : m.found.length ≤ 2000000
  a : ∀ x ∈ m.list, SFit x.a ∧ SFit x.b
theorem s_l32Pair (a b : Assoc) (x y u v : RV) : Spec Try.prog 54 0 [] [a.av (.r x) (.r y), b.av (.r u) (.r v)] (fun r _ _ _ => r = .bo (pairB a b.fr b.to)) := by
  refine mk54 rfl fun c hP hm => ?_
  unfold pc54 Assoc.av
  simp only [hm, go_sem, ↓reduceIte]
  repeat' first | refine And.intro ?_ ?_ | intro _
  all_goals (apply bo_inj; unfold pairB; first | (rw [decide_eq_true (by omega)]; done) | (rw [decide_eq_false (by omega)]; done) | (simp [*]; done) | (rw [Bool.eq_iff_iff]; simp [*] <;> omega))
theorem s_l32Finding (f : Fnd) (n : Int) : Spec Try.prog 55 0 [] [f.av, .i n] (fun r _ _ _ => r = .bo (fndB (IntKind.i64.wrap (n - 1) + 1) f)) := by
  refine mk55 rfl fun c hP hm => ?_
  unfold pc55 Fnd.av
  simp only [hm, go_sem, ↓reduceIte]
  repeat' first | refine And.intro ?_ ?_ | intro _ | (refine c_l6In hP ?_; simp only [hm, go_sem, ↓reduceIte])
  all_goals (apply bo_inj; simp [fndB, *])
theorem s_l32Less (a b : Fnd) : Spec Try.prog 56 0 [] [a.av, b.av] (fun r _ _ _ => r = .bo (lessB a b)) := by
  refine mk56 rfl fun c hP hm => ?_
  unfold pc56 Fnd.av
  simp only [hm, go_sem, ↓reduceIte]
  repeat' first | refine And.intro ?_ ?_ | intro _
  all_goals (apply bo_inj; unfold lessB; first | (rw [decide_eq_true (by omega)]; done) | (rw [decide_eq_false (by omega)]; done) | (rw [Bool.eq_iff_iff]; simp [*] <;> omega) | (simp [*]; done))
theorem rowAt {l : List Fnd} {i : Nat} (h : i < l.length) : (l.map Fnd.row).getD i [] = (fndAt l i).row := by rw [getD_map h, fndAt_eq h]
end Go.Cap

/- Contracts: monitors are valid, twice. -/
namespace Go.Cap
open Go Go.Proofs
set_option maxRecDepth 100000
set_option linter.unusedSimpArgs false
set_option linter.unusedVariables false
attribute [local irreducible] Call Run Spec Le

theorem arowAt {l : List Assoc} {i : Nat} (h : i < l.length) : (l.map Assoc.row).getD i [] = (assocAt l i).row := by rw [getD_map h, assocAt_eq h]
theorem lt_succ' {Q : Nat → Prop} {i : Nat} (h : ∀ j, j < i → Q j) (hi : Q i) : ∀ j, j < i + 1 → Q j := fun j hj => by
  rcases Nat.lt_or_ge j i with h2 | h2
  · exact h j h2
  · have : j = i := by omega
    rw [this]; exact hi
theorem lt_succ_all {p : Nat → Bool} {i : Nat} (h : ∀ j, j < i → p j = true) (hi : p i = true) : ∀ j, j < i + 1 → p j = true := fun j hj => by
  rcases Nat.lt_or_ge j i with h2 | h2
  · exact h j h2
  · have : j = i := by omega
    rw [this]; exact hi
theorem s_specMonitorValid (m : Mon) (hf : MFit m) : Spec Try.prog 32 0 [] [m.ro] (fun r _ _ _ => r = .bo (monB m)) := by
  refine mr32 rfl fun c hP hm => ?_
  unfold pc32 Mon.ro
  have hnl := hf.nl
  have hnf := hf.nf
  refine run_seq (run_wpc _ _ _ _ _ ?_)
  simp only [hm, go_sem, ↓reduceIte]
  refine run_seq (run_wpc _ _ _ _ _ ?_)
  simp only [hm, go_sem, ↓reduceIte]
  refine run_exit 0 (fun t0 => t0 = ⟨[(1, .ptr 0 0 0)], [(0, .var [.i m.records, .r (.ro none (m.list.map Assoc.row)), .r (.ro none (m.found.map Fnd.row))])], 1, []⟩ ∧ listB m.list = true) ?_ ?_
  · refine lp_wpc (α := Nat) (fun i => ⟨[(1, .ptr 0 0 0), (3, .i i)], [(0, .var [.i m.records, .r (.ro none (m.list.map Assoc.row)), .r (.ro none (m.found.map Fnd.row))])], 1, []⟩)
      (fun i => i ≤ m.list.length ∧ ∀ j, j < i → listOne m.list j = true) (fun i => m.list.length - i) 0 ⟨Nat.zero_le _, fun j hj => by omega⟩ (by (refine le_ev [] ?_; simp only [hm, go_sem, ↓reduceIte]; first | done | rfl | exact ⟨rfl, rfl⟩)) ?_
    rintro i ⟨hi, hI⟩
    unfold pc32l1
    rcases Nat.lt_or_ge i m.list.length with hil | hil
    · have hw : IntKind.i64.wrap ((i : Int) + 1) = ((i + 1 : Nat) : Int) := by rw [wrap64 (by omega) (by omega)]; omega
      have hg := arowAt hil
      have hok : listOne m.list i = false → AV.r (RV.b false) = AV.bo (monB m) := fun h => by unfold monB listB; rw [allB_false hil h]; simp
      have hst : listOne m.list i = true → i + 1 ≤ m.list.length ∧ ∀ j, j < i + 1 → listOne m.list j = true := fun h => ⟨hil, lt_succ_all hI h⟩
      obtain ⟨fa, fb⟩ := hf.a _ (List.getElem_mem hil)
      rw [← assocAt_eq hil] at fa fb
      simp only [Int.toNat_natCast, hg, Assoc.row, Assoc.cellsX, hm, go_sem, ↓reduceIte]
      repeat' first | refine And.intro ?_ ?_ | intro _
      all_goals first
        | omega
        | rfl
        | skip
      refine call_pure (hP ▸ s_specAssocValid (assocAt m.list i) fa fb) rfl rfl ?_
      simp only [Int.toNat_natCast, hg, Assoc.row, Assoc.cellsX, hm, go_sem, ↓reduceIte]
      repeat' first | refine And.intro ?_ ?_ | intro _
      all_goals first
        | omega
        | rfl
        | (refine hok ?_; simp [listOne, *]; done)
        | skip
      rename_i hav hs0
      refine lp_wpc (α := Nat) (fun k => ⟨[(1, .ptr 0 0 0), (3, .i i), (4, .i k)], [(0, .var [.i m.records, .r (.ro none (m.list.map Assoc.row)), .r (.ro none (m.found.map Fnd.row))])], 1, []⟩)
        (fun k => k ≤ i ∧ ∀ j, j < k → pairB (assocAt m.list j) (assocAt m.list i).fr (assocAt m.list i).to = false) (fun k => i - k) 0 ⟨Nat.zero_le _, fun j hj => by omega⟩ (by (refine le_ev [] ?_; simp only [hm, go_sem, ↓reduceIte]; first | done | rfl | exact ⟨rfl, rfl⟩)) ?_
      rintro k ⟨hk, hK⟩
      unfold pc32l0
      rcases Nat.lt_or_ge k i with hki | hki
      · have hwk : IntKind.i64.wrap ((k : Int) + 1) = ((k + 1 : Nat) : Int) := by rw [wrap64 (by omega) (by omega)]; omega
        have hgk := arowAt (l := m.list) (show k < m.list.length by omega)
        simp only [Int.toNat_natCast, hg, hgk, Assoc.row, Assoc.cellsX, hm, go_sem, ↓reduceIte]
        repeat' first | refine And.intro ?_ ?_ | intro _
        all_goals first
          | omega
          | rfl
          | skip
        refine call_pure (hP ▸ s_l32Pair (assocAt m.list k) (assocAt m.list i) _ _ _ _) rfl rfl ?_
        simp only [Int.toNat_natCast, hg, hgk, Assoc.row, Assoc.cellsX, hwk, hm, go_sem, ↓reduceIte]
        repeat' first | refine And.intro ?_ ?_ | intro _
        all_goals first
          | omega
          | rfl
          | (rename_i hpp; refine hok ?_; have := allB_false (p := fun k => !pairB (assocAt m.list k) (assocAt m.list i).fr (assocAt m.list i).to) hki (by simp [hpp]); simp [listOne, this]; done)
          | (rename_i hpp; refine ⟨k + 1, ⟨hki, lt_succ' hK hpp⟩, by omega, ?_⟩; (refine le_ev [] ?_; simp only [hm, go_sem, ↓reduceIte]; first | done | rfl | exact ⟨rfl, rfl⟩))
      · have : k = i := by omega
        subst this
        have hall : allB k (fun j => !pairB (assocAt m.list j) (assocAt m.list k).fr (assocAt m.list k).to) = true := allB_true fun j hj => by rw [hK j hj]; rfl
        simp only [hw, hm, go_sem, ↓reduceIte]
        repeat' first | refine And.intro ?_ ?_ | intro _
        all_goals first
          | omega
          | (refine ⟨k + 1, hst ?_, by omega, ?_⟩
             · simp [listOne, *]
             · (refine le_ev [] ?_; simp only [hm, go_sem, ↓reduceIte]; first | done | rfl | exact ⟨rfl, rfl⟩))
    · have : i = m.list.length := by omega
      subst this
      have hfin : listB m.list = true := allB_true hI
      simp only [hm, go_sem, ↓reduceIte]
      repeat' first | refine And.intro ?_ ?_ | intro _
      all_goals first
        | omega
        | (refine ⟨_, ⟨rfl, hfin⟩, ?_⟩; (refine le_ev [] ?_; simp only [hm, go_sem, ↓reduceIte]; first | done | rfl | exact ⟨rfl, rfl⟩))
  rintro t0 ⟨rfl, hL⟩
  refine run_seq (run_wpc _ _ _ _ _ ?_)
  simp only [hm, go_sem, ↓reduceIte]
  have hbad : foundB (IntKind.i64.wrap (m.records - 1) + 1) m.found = false → monB m = false := fun h => by
    unfold monB
    by_cases hr : inB m.records 0 60 = true
    · have : IntKind.i64.wrap (m.records - 1) + 1 = m.records := by
        simp only [inB, decide_eq_true_eq] at hr
        rw [wrap64 (by omega) (by omega)]; omega
      rw [this] at h
      rw [h]; simp
    · simp [hr]
  have hgood : foundB (IntKind.i64.wrap (m.records - 1) + 1) m.found = true → inB m.records 0 60 = true → foundB m.records m.found = true := fun h hr => by
    have : IntKind.i64.wrap (m.records - 1) + 1 = m.records := by
      simp only [inB, decide_eq_true_eq] at hr
      rw [wrap64 (by omega) (by omega)]; omega
    rw [this] at h; exact h
  generalize hB : IntKind.i64.wrap (m.records - 1) + 1 = B at hbad hgood
  refine run_exit 4 (fun t0 => t0 = ⟨[(1, .ptr 0 0 0)], [(0, .var [.i m.records, .r (.ro none (m.list.map Assoc.row)), .r (.ro none (m.found.map Fnd.row))])], 1, []⟩ ∧ foundB B m.found = true) ?_ ?_
  · refine lp_wpc (α := Nat) (fun i => ⟨[(1, .ptr 0 0 0), (5, .i i)], [(0, .var [.i m.records, .r (.ro none (m.list.map Assoc.row)), .r (.ro none (m.found.map Fnd.row))])], 1, []⟩)
      (fun i => i ≤ m.found.length ∧ ∀ j, j < i → foundOne B m.found j = true) (fun i => m.found.length - i) 0 ⟨Nat.zero_le _, fun j hj => by omega⟩ (by (refine le_ev [] ?_; simp only [hm, go_sem, ↓reduceIte]; first | done | rfl | exact ⟨rfl, rfl⟩)) ?_
    rintro i ⟨hi, hI⟩
    unfold pc32l2
    rcases Nat.lt_or_ge i m.found.length with hil | hil
    · have hw : IntKind.i64.wrap ((i : Int) + 1) = ((i + 1 : Nat) : Int) := by rw [wrap64 (by omega) (by omega)]; omega
      have hg := rowAt hil
      have hok : foundOne B m.found i = false → AV.r (RV.b false) = AV.bo (monB m) := fun h => by rw [hbad (allB_false hil h)]
      have hst : foundOne B m.found i = true → i + 1 ≤ m.found.length ∧ ∀ j, j < i + 1 → foundOne B m.found j = true := fun h => ⟨hil, lt_succ_all hI h⟩
      have hg1 : 0 < i → (m.found.map Fnd.row).getD (i - 1) [] = (fndAt m.found (i - 1)).row := fun _ => rowAt (by omega)
      have hw1 : 0 < i → IntKind.i64.wrap ((i : Int) - 1) = ((i - 1 : Nat) : Int) := fun _ => by rw [wrap64 (by omega) (by omega)]; omega
      have hdef : foundOne B m.found i = (fndB B (fndAt m.found i) && (decide (i = 0) || lessB (fndAt m.found (i - 1)) (fndAt m.found i))) := rfl
      have hcf := s_l32Finding (fndAt m.found i) m.records
      have hcl := s_l32Less (fndAt m.found (i - 1)) (fndAt m.found i)
      rw [hB] at hcf
      unfold Fnd.av at hcf hcl
      rcases Nat.eq_zero_or_pos i with h0 | h0
      · subst h0
        have hz : IntKind.i64.wrap ((0 : Int) + 1) = ((0 + 1 : Nat) : Int) := by decide
        simp only [Int.natCast_zero, Int.toNat_zero, hz, hg, Fnd.row, hm, go_sem, ↓reduceIte]
        repeat' first | refine And.intro ?_ ?_ | intro _ | (refine call_pure (hP ▸ hcf) rfl rfl ?_; simp only [Int.natCast_zero, Int.toNat_zero, hz, hg, Fnd.row, hm, go_sem, ↓reduceIte])
        all_goals first
          | omega
          | rfl
          | (refine hok ?_; rw [hdef]; simp [*]; done)
          | (refine ⟨0 + 1, hst ?_, by omega, by (refine le_ev [] ?_; simp only [hm, go_sem, ↓reduceIte]; first | done | rfl | exact ⟨rfl, rfl⟩)⟩; rw [hdef]; simp [*])
      · have hne : ¬ i = 0 := by omega
        simp only [hne, decide_false, Bool.false_or] at hdef
        simp only [hw, hw1 h0, Int.toNat_natCast, hg, hg1 h0, Fnd.row, hm, go_sem, ↓reduceIte]
        repeat' first | refine And.intro ?_ ?_ | intro _ | (refine call_pure (hP ▸ hcf) rfl rfl ?_; simp only [hw, hw1 h0, Int.toNat_natCast, hg, hg1 h0, Fnd.row, hm, go_sem, ↓reduceIte]) | (refine call_pure (hP ▸ hcl) rfl rfl ?_; simp only [hw, hw1 h0, Int.toNat_natCast, hg, hg1 h0, Fnd.row, hm, go_sem, ↓reduceIte])
        all_goals first
          | omega
          | rfl
          | (refine hok ?_; rw [hdef]; simp [*]; done)
          | (refine ⟨i + 1, hst ?_, by omega, by (refine le_ev [] ?_; simp only [hm, go_sem, ↓reduceIte]; first | done | rfl | exact ⟨rfl, rfl⟩)⟩; rw [hdef]; simp [*])
    · have : i = m.found.length := by omega
      subst this
      have hfin : foundB B m.found = true := allB_true hI
      simp only [hm, go_sem, ↓reduceIte]
      repeat' first | refine And.intro ?_ ?_ | intro _
      all_goals first
        | omega
        | (refine ⟨_, ⟨rfl, hfin⟩, ?_⟩; (refine le_ev [] ?_; simp only [hm, go_sem, ↓reduceIte]; first | done | rfl | exact ⟨rfl, rfl⟩))
  rintro t0 ⟨rfl, hF⟩
  refine run_wpc _ _ _ _ _ ?_
  simp only [hm, go_sem, ↓reduceIte]
  refine c_l6In hP ?_
  simp only [hm, go_sem, ↓reduceIte]
  repeat' first | refine And.intro ?_ ?_ | intro _
  all_goals (apply bo_inj; unfold monB; first | (rw [hL, hgood hF (by assumption)]; simp [*]; done) | (simp [*]; done) | (rw [hL, hgood hF (by assumption), Bool.eq_iff_iff]; simp [*]; omega))
end Go.Cap

/- Contracts: finding associations, twice. -/
namespace Go.Cap
open Go Go.Proofs
set_option maxRecDepth 100000
set_option linter.unusedSimpArgs false
set_option linter.unusedVariables false
attribute [local irreducible] Call Run Spec Le

theorem findIx_some {f t : Int} : ∀ {l : List Assoc} {i : Nat}, i < l.length → (∀ j, j < i → pairB (assocAt l j) f t = false) → pairB (assocAt l i) f t = true → findIx f t l = some i
  | [], i, h, _, _ => by simp at h
  | a :: l, 0, h, _, hp => by rw [findIx, if_pos (by simpa [assocAt] using hp)]
  | a :: l, i + 1, h, hj, hp => by
    have h0 := hj 0 (by omega)
    rw [findIx, if_neg (by simpa [assocAt] using h0), findIx_some (l := l) (i := i) (by simpa using h) (fun j hj' => by simpa [assocAt] using hj (j + 1) (by omega)) (by simpa [assocAt] using hp)]
    rfl
theorem findIx_none {f t : Int} : ∀ {l : List Assoc}, (∀ j, j < l.length → pairB (assocAt l j) f t = false) → findIx f t l = none
  | [], _ => rfl
  | a :: l, hj => by
    have h0 := hj 0 (by simp)
    rw [findIx, if_neg (by simpa [assocAt] using h0), findIx_none (l := l) (fun j hj' => by simpa [assocAt] using hj (j + 1) (by simpa using hj'))]
    rfl
theorem findIx_lt {f t : Int} : ∀ {l : List Assoc} {i : Nat}, findIx f t l = some i → i < l.length ∧ pairB (assocAt l i) f t = true
  | [], i, h => by cases h
  | a :: l, i, h => by
    rw [findIx] at h
    split at h
    · rename_i hp
      cases h
      exact ⟨by simp, by simpa [assocAt] using hp⟩
    · cases hf : findIx f t l with
      | none => rw [hf] at h; cases h
      | some k =>
        rw [hf] at h
        cases h
        obtain ⟨h1, h2⟩ := findIx_lt hf
        exact ⟨by simpa using h1, by simpa [assocAt] using h2⟩
def ixOr (o : Option Nat) : Int := match o with | some k => k | none => -1
theorem s_l32Find (m : Mon) (f t : Int) (hl : m.list.length ≤ 2000000) : Spec Try.prog 58 0 [] [m.ro, .i f, .i t] (fun r _ _ _ => r = .i (ixOr (findIx f t m.list))) := by
  refine mk58 rfl fun c hP hm => ?_
  unfold pc58 Mon.ro
  simp only [hm, go_sem, ↓reduceIte]
  refine lp_wpc (α := Nat) (fun i => ⟨[(1, .i f), (2, .i t), (3, .ptr 0 0 0), (7, .i i)], [(0, .var [.i m.records, .r (.ro none (m.list.map Assoc.row)), .r (.ro none (m.found.map Fnd.row))])], 1, []⟩)
    (fun i => i ≤ m.list.length ∧ ∀ j, j < i → pairB (assocAt m.list j) f t = false) (fun i => m.list.length - i) 0 ⟨Nat.zero_le _, fun j hj => by omega⟩ (by (refine le_ev [] ?_; simp only [hm, go_sem, ↓reduceIte]; first | done | rfl | exact ⟨rfl, rfl⟩)) ?_
  rintro i ⟨hi, hI⟩
  unfold pc58l0
  rcases Nat.lt_or_ge i m.list.length with hil | hil
  · have hw : IntKind.i64.wrap ((i : Int) + 1) = ((i + 1 : Nat) : Int) := by rw [wrap64 (by omega) (by omega)]; omega
    have hg := arowAt hil
    simp only [hw, Int.toNat_natCast, hg, Assoc.row, Assoc.cellsX, hm, go_sem, ↓reduceIte]
    repeat' first | refine And.intro ?_ ?_ | intro _ | (refine call_pure (hP ▸ s_l32Pair (assocAt m.list i) ⟨f, t, 0, false, noSide, noSide⟩ _ _ .nil .nil) rfl rfl ?_; simp only [hw, Int.toNat_natCast, hg, Assoc.row, Assoc.cellsX, hm, go_sem, ↓reduceIte])
    all_goals first
      | omega
      | rfl
      | (rename_i hp; rw [findIx_some hil hI hp]; rfl)
      | (rename_i hp; refine ⟨i + 1, ⟨hil, lt_succ' hI hp⟩, by omega, ?_⟩; (refine le_ev [] ?_; simp only [hm, go_sem, ↓reduceIte]; first | done | rfl | exact ⟨rfl, rfl⟩))
  · have : i = m.list.length := by omega
    subst this
    simp only [hm, go_sem, ↓reduceIte]
    repeat' first | refine And.intro ?_ ?_ | intro _
    all_goals first
      | omega
      | (rw [findIx_none hI]; rfl)
end Go.Cap

/- Contracts: marks that a law leaves in what the program returned. -/
namespace Go.Cap
open Go Go.Proofs
set_option maxRecDepth 100000
set_option linter.unusedSimpArgs false
set_option linter.unusedVariables false
attribute [local irreducible] Call Run Spec Le

def marks {α : Type} (f : Int → α) (w : Int) (k : Nat) (n : Int) : List α := (List.range k).map fun (i : Nat) => f (n + w * (i : Int))
end Go.Cap

/- Plain facts on assemblies: validity, what is told, what is left. -/
namespace Go.Cap
open Go Go.Proofs
set_option linter.unusedSimpArgs false
set_option linter.unusedVariables false

theorem restFrom_sub (p : List Nat) : ∀ (l : List Data) (i : Nat), (restFrom p i l).Sublist l
  | [], i => by simp [restFrom]
  | d :: l, i => by
    simp only [restFrom]
    split
    · exact (restFrom_sub p l (i + 1)).cons _
    · exact (restFrom_sub p l (i + 1)).cons_cons _
theorem takeOut_nlen (a : Asm) (p : List Nat) : (takeOut a p).next.length = a.next.length := by unfold takeOut; simp only; split <;> simp
/-- Settling, step by step. -/
inductive Stl : Asm → List Msg → Asm → List Msg → Prop
  | stop (a : Asm) (ms : List Msg) : due a = none → Stl a ms a ms
  | step (a : Asm) (ms : List Msg) (p : List Nat) (a' : Asm) (ms' : List Msg) : AsmOk a → due a = some p → Stl (takeOut a p) (ms ++ [msgOf a p]) a' ms' → Stl a ms a' ms'
theorem Stl.more {a a' : Asm} {ms ms' : List Msg} (h : Stl a ms a' ms') : ∃ t, ms' = ms ++ t ∧ (t = [] → a' = a) := by
  induction h with
  | stop a ms _ => exact ⟨[], by simp, fun _ => rfl⟩
  | step a ms p a' ms' ok hd _ ih =>
    obtain ⟨t, h1, _⟩ := ih
    exact ⟨msgOf a p :: t, by rw [h1, List.append_assoc]; rfl, fun h => by cases h⟩
end Go.Cap

/- Plain facts on settling: numbers, messages without order, bytes. -/
namespace Go.Cap
open Go Go.Proofs
set_option linter.unusedSimpArgs false
set_option linter.unusedVariables false

/-- A part that is a message by itself is told, if it has no order. -/
theorem Stl.loose {a a' : Asm} {ms ms' : List Msg} (h : Stl a ms a' ms') {d : Data} (h1 : d.first = true) (h2 : d.last = true) (h3 : d.loose = true) : (a.parts.map Data.tsn).Nodup → d ∈ a.parts → ⟨d.stream, d.ssn, true, d.text⟩ ∈ ms' := by
  induction h with
  | stop a ms hd =>
    intro hn hm
    exfalso
    obtain ⟨i, hi, rfl⟩ := List.getElem_of_mem hm
    have hda := dataAt_eq hi
    have hl : a.parts.length = (a.parts.length - 1) + 1 := by omega
    have hc : chain a.parts i = some [i] := by unfold chain; rw [hl, chainN, hda, if_pos h2]
    have hda2 : dueAt a i = some [i] := by unfold dueAt; rw [hda, if_pos (by simp [h1, h3]), hc]
    have key : ∀ l : List Nat, dueFrom a l = none → ∀ i ∈ l, dueAt a i = none := by
      intro l
      induction l with
      | nil => intro _ i hi; cases hi
      | cons x l ih =>
        intro h i hi
        rw [dueFrom] at h
        cases hx : dueAt a x with
        | some q => rw [hx] at h; cases h
        | none =>
          rw [hx] at h
          rcases List.mem_cons.1 hi with rfl | hi
          · exact hx
          · exact ih h i hi
    have := key _ hd i (List.mem_range.2 hi)
    rw [hda2] at this; cases this
  | step a ms p a' ms' ok hd st ih =>
    intro hn hm
    have hdo := due_ok ok hd
    obtain ⟨i, hi, rfl⟩ := List.getElem_of_mem hm
    have hda := dataAt_eq hi
    by_cases hip : i ∈ p
    · -- the chain is this part alone
      obtain ⟨j, hj, hdj⟩ := due_some hd
      have hp : p = [i] := by
        unfold dueAt at hdj
        split at hdj
        · rename_i hc
          unfold chain at hdj
          obtain ⟨l, hl⟩ : ∃ l, a.parts.length = l + 1 := ⟨a.parts.length - 1, by omega⟩
          rw [hl, chainN] at hdj
          split at hdj
          · cases hdj
            simp only [List.mem_singleton] at hip
            rw [hip]
          · rename_i hjl
            exfalso
            have hnf : ∀ (n k : Nat) (q : List Nat), chainN n a.parts k = some q → (dataAt a.parts k).first = false → ∀ x ∈ q, (dataAt a.parts x).first = false := by
              intro n
              induction n with
              | zero => intro k q h; cases h
              | succ n ihn =>
                intro k q h hk x hx
                rw [chainN] at h
                split at h
                · cases h; simp only [List.mem_singleton] at hx; rw [hx]; exact hk
                · cases hnx : nextIx a.parts k with
                  | none => rw [hnx] at h; cases h
                  | some y =>
                    rw [hnx] at h
                    simp only at h
                    have hyf : (dataAt a.parts y).first = false := by
                      unfold nextIx at hnx
                      split at hnx
                      · split at hnx
                        · cases hnx
                        · rename_i hcc
                          cases hnx
                          simp only [Bool.or_eq_true, not_or] at hcc
                          simpa using hcc.1
                      · cases hnx
                    cases hcn : chainN n a.parts y with
                    | none => rw [hcn] at h; cases h
                    | some t =>
                      rw [hcn] at h
                      cases h
                      rcases List.mem_cons.1 hx with rfl | hx
                      · exact hk
                      · exact ihn y t hcn hyf x hx
            cases hnx : nextIx a.parts j with
            | none => rw [hnx] at hdj; cases hdj
            | some y =>
              rw [hnx] at hdj
              simp only at hdj
              have hyf : (dataAt a.parts y).first = false := by
                unfold nextIx at hnx
                split at hnx
                · split at hnx
                  · cases hnx
                  · rename_i hcc
                    cases hnx
                    simp only [Bool.or_eq_true, not_or] at hcc
                    simpa using hcc.1
                · cases hnx
              cases hcn : chainN l a.parts y with
              | none => rw [hcn] at hdj; cases hdj
              | some t =>
                rw [hcn] at hdj
                cases hdj
                rcases List.mem_cons.1 hip with rfl | hip
                · rw [hda, h2] at hjl; exact hjl rfl
                · have := hnf _ _ _ hcn hyf i hip
                  rw [hda, h1] at this; cases this
        · cases hdj
      obtain ⟨t, ht, _⟩ := st.more
      rw [ht, List.append_assoc]
      refine List.mem_append_right _ (List.mem_append_left _ ?_)
      rw [hp]
      simp only [List.mem_singleton, msgOf, List.headD_cons, hda, textOfIx, List.flatMap_cons, List.flatMap_nil, List.append_nil, h3]
    · refine ih (hn.sublist ((restFrom_sub p a.parts 0).map _)) ?_
      show a.parts[i] ∈ restFrom p 0 a.parts
      have key : ∀ (l : List Data) (k j : Nat) (hj : j < l.length), k + j ∉ p → l[j] ∈ restFrom p k l := by
        intro l
        induction l with
        | nil => intro k j hj; simp at hj
        | cons x l ihl =>
          intro k j hj hnp
          rw [restFrom]
          cases j with
          | zero =>
            rw [if_neg (by simpa using hnp)]
            exact List.mem_cons_self ..
          | succ j =>
            have := ihl (k + 1) j (by simpa using hj) (by rw [Nat.add_assoc, Nat.add_comm 1 j]; exact hnp)
            split
            · exact this
            · exact List.mem_cons_of_mem _ this
      exact key a.parts 0 i hi (by rw [Nat.zero_add]; exact hip)
end Go.Cap

/- Plain facts on runs of assemblies: prefixes, numbers of messages. -/
namespace Go.Cap
open Go Go.Proofs
set_option linter.unusedSimpArgs false
set_option linter.unusedVariables false

theorem Stl.streams {a a' : Asm} {ms ms' : List Msg} (h : Stl a ms a' ms') : (∀ m ∈ ms, m.stream < a.next.length) → ∀ m ∈ ms', m.stream < a.next.length := by
  induction h with
  | stop a ms _ => exact fun h => h
  | step a ms p a' ms' ok hd _ ih =>
    intro h
    have hdo := due_ok ok hd
    rw [takeOut_nlen] at ih
    refine ih fun m hm => ?_
    rcases List.mem_append.1 hm with hm | hm
    · exact h m hm
    · simp only [List.mem_singleton] at hm
      subst hm
      obtain ⟨k0, pt, hp0⟩ : ∃ k0 pt, p = k0 :: pt := by cases p with
        | nil => exact absurd rfl hdo.ne
        | cons a b => exact ⟨a, b, rfl⟩
      have hk0 : k0 < a.parts.length := hdo.lt k0 (by rw [hp0]; simp)
      have := ok.stream _ (List.getElem_mem hk0)
      unfold msgOf
      rw [hp0]
      simp only [List.headD_cons, dataAt_eq hk0]
      exact this.2
end Go.Cap

/- Contracts: the packets of a talk (the reference's). -/
namespace Go.Cap
open Go Go.Proofs
set_option maxRecDepth 100000
set_option linter.unusedSimpArgs false
set_option linter.unusedVariables false
attribute [local irreducible] Call Run Spec Le

theorem s_l41PartsP (t : Talk) (byB : Bool) (hv : talkB t = true) : Spec Try.prog 97 0 [] [t.ro, .bo byB] (Plain fun r => r = .r (.ro none ((talkParts t byB).map Data.row))) := by
  have := s_l41Parts t byB hv
  rw [← List.length_map (f := Data.row)] at this
  exact this.dataP
theorem s_l41Packet (t : Talk) (byB : Bool) (c : Chunk) : Spec Try.prog 101 0 [] [t.ro, .bo byB, .r (.ro none [c.row])] (fun r _ _ _ => r = (onePk t byB c).ro) := by
  refine mk101 rfl fun c hP hm => ?_
  unfold pc101 Talk.ro Talk.av onePk
  cases byB <;> simp only [hm, go_sem, ↓reduceIte]
  all_goals rfl
theorem s_l41One (t : Talk) (byB : Bool) (k : Int) : Spec Try.prog 102 0 [] [t.ro, .bo byB, .i k] (fun r _ _ _ => r = (onePk t byB ⟨k, 0, []⟩).ro) := by
  refine mk102 rfl fun c hP hm => ?_
  unfold pc102 Talk.ro Talk.av
  simp only [hm, go_sem, ↓reduceIte]
  refine call_frz 2 rfl rfl (by simp only [go_sem, ↓reduceIte]) ?_
  simp only [hm, go_sem, ↓reduceIte]
  refine call_data (hP ▸ s_l41Packet t byB ⟨k, 0, []⟩) rfl rfl ?_
  simp only [Packet.ro, hm, go_sem, ↓reduceIte]
theorem onePk_av (t : Talk) (b : Bool) (c : Chunk) : (onePk t b c).ro = .agg [.i (onePk t b c).fr, .i (onePk t b c).to, .i (onePk t b c).tag, .r (.ro none [c.row])] := by
  cases b <;> rfl
theorem onePk_row (t : Talk) (b : Bool) (c : Chunk) : (onePk t b c).row = [.n .i64 (onePk t b c).fr, .n .i64 (onePk t b c).to, .n .i64 (onePk t b c).tag, .ro none [c.row]] := by
  cases b <;> rfl
theorem s_l41Hello (t : Talk) (hv : talkB t = true) : Spec Try.prog 96 0 [] [t.ro] (New1 (.sl 0 0 4) 4 ((hello t).map Packet.row)) := by
  refine Spec.new1 (r0 := .sl 0 0 4) (Q := fun r hp _ _ => ∃ b, r = .sl b 0 4 ∧ hget hp b = some (.row 4 ((hello t).map Packet.row))) ?_ (fun r hp nx gs h => h) (fun f g h => by simp only [go_sem, h])
  have hi := init_ok hv
  refine mk96 rfl fun c hP hm => ?_
  unfold pc96 Talk.ro Talk.av
  simp only [hm, go_sem, ↓reduceIte]
  refine call_data (hP ▸ s_specInitPut t.a false (hi false)) rfl rfl ?_
  simp only [Chunk.av, hm, go_sem, ↓reduceIte]
  refine call_data (hP ▸ s_specInitPut t.b true (hi true)) rfl rfl ?_
  simp only [Chunk.av, hm, go_sem, ↓reduceIte]
  refine call_frz 3 rfl rfl (by simp only [go_sem, ↓reduceIte]) ?_
  simp only [hm, go_sem, ↓reduceIte]
  refine call_data (hP ▸ s_l41Packet t false (initPut t.a false)) rfl rfl ?_
  simp only [onePk, Packet.ro, List.map_cons, List.map_nil, hm, go_sem, ↓reduceIte]
  refine call_frz 5 rfl rfl (by simp only [go_sem, ↓reduceIte]) ?_
  simp only [hm, go_sem, ↓reduceIte]
  refine call_data (hP ▸ s_l41Packet t true (initPut t.b true)) rfl rfl ?_
  simp only [onePk, Packet.ro, List.map_cons, List.map_nil, hm, go_sem, ↓reduceIte]
  refine call_data (hP ▸ s_l41One t false 10) rfl rfl ?_
  simp only [onePk, Packet.ro, List.map_cons, List.map_nil, hm, go_sem, ↓reduceIte]
  refine call_data (hP ▸ s_l41One t true 11) rfl rfl ?_
  simp only [onePk, Packet.ro, List.map_cons, List.map_nil, hm, go_sem, ↓reduceIte]
  exact ⟨6, rfl, rfl⟩
theorem s_specTalkPackets (t : Talk) (hl : t.says.length ≤ 1048576) (hx : ∀ s ∈ t.says, s.text.length ≤ 1048576) : Spec Try.prog 78 0 [] [t.ro] (Plain fun r => r = .r (.ro none ((talkPk t).map Packet.row))) := by
  refine Spec.data1 (sz := 4) (Q := fun r hp _ _ => ∃ b, r = .sl b 0 ((talkPk t).map Packet.row).length ∧ hget hp b = some (.row 4 ((talkPk t).map Packet.row))) ?_ (fun r hp nx gs h => h)
  refine mr78 rfl fun c hP hm => ?_
  unfold pc78 Talk.ro Talk.av
  refine run_seq (run_wpc _ _ _ _ _ ?_)
  simp only [hm, go_sem, ↓reduceIte]
  refine run_seq (run_wpc _ _ _ _ _ ?_)
  simp only [hm, go_sem, ↓reduceIte]
  refine call_pure (hP ▸ s_specTalkValid t hl hx) rfl rfl ?_
  by_cases hv : talkB t = true
  rotate_left
  · have hv' : talkB t = false := by simpa using hv
    have e : talkPk t = [] := by unfold talkPk; rw [if_neg hv]
    simp only [hv', e, hm, go_sem, ↓reduceIte]
    exact ⟨1, rfl, rfl⟩
  obtain ⟨hsz, hlen, hsays, hta, htb, _, _⟩ := talk_ok hv
  have hz : t.size = (t.size.toNat : Int) := by omega
  have hz1 : 1 ≤ t.size.toNat ∧ t.size.toNat ≤ 20 := by omega
  simp only [hv, hm, go_sem, ↓reduceIte]
  refine run_seq (run_wpc _ _ _ _ _ ?_)
  simp only [hm, go_sem, ↓reduceIte]
  refine call_new1p (hP ▸ s_l41Hello t hv) rfl ?_
  simp only [hm, go_sem, ↓reduceIte]
  refine run_seq (run_wpc _ _ _ _ _ ?_)
  simp only [hm, go_sem, ↓reduceIte]
  refine call_dataP (hP ▸ s_l41PartsP t false hv) rfl rfl ?_
  simp only [hm, go_sem, ↓reduceIte]
  refine run_seq (run_wpc _ _ _ _ _ ?_)
  simp only [hm, go_sem, ↓reduceIte]
  refine call_dataP (hP ▸ s_l41PartsP t true hv) rfl rfl ?_
  simp only [hm, go_sem, ↓reduceIte]
  refine run_seq (run_wpc _ _ _ _ _ ?_)
  simp only [hm, go_sem, ↓reduceIte]
  have hal := all_len hv
  have hmany : ∀ i (h : i < t.says.length), ((t.says[i].text.length : Int) + t.size - 1) / t.size = ((manyN t.says[i].text.length t.size.toNat : Nat) : Int) := fun i h => by
    obtain ⟨b1, b2, _⟩ := hsays _ (List.getElem_mem h)
    unfold manyN
    rw [hz, Int.toNat_natCast, Int.natCast_ediv]
    congr 1; omega
  refine run_exit 0 (fun t0 => t0 = ⟨[(1, .ptr 0 0 0), (3, .sl 1 0 (hello t ++ saysPk t t.all).length)], [(1, .row 4 ((hello t ++ saysPk t t.all).map Packet.row)), (0, .var [.i t.fr, .i t.to, .i t.a.tag, .i t.a.window, .i t.a.streams, .i t.a.tsn, .i t.b.tag, .i t.b.window, .i t.b.streams, .i t.b.tsn, .i t.size, .r (.ro none (t.says.map Say.row))])], 2, []⟩) ?_ ?_
  · refine lp_wpc (α := Nat) (fun i => ⟨[(1, .ptr 0 0 0), (3, .sl 1 0 (hello t ++ saysPk t (t.all.take (t.q i))).length), (4, .r (.ro none ((sideL false (t.all.drop (t.q i))).map Data.row))), (5, .r (.ro none ((sideL true (t.all.drop (t.q i))).map Data.row))), (6, .i i)],
        [(1, .row 4 ((hello t ++ saysPk t (t.all.take (t.q i))).map Packet.row)), (0, .var [.i t.fr, .i t.to, .i t.a.tag, .i t.a.window, .i t.a.streams, .i t.a.tsn, .i t.b.tag, .i t.b.window, .i t.b.streams, .i t.b.tsn, .i t.size, .r (.ro none (t.says.map Say.row))])], 2, []⟩)
      (fun i => i ≤ t.says.length) (fun i => t.says.length - i) 0 (Nat.zero_le _) (by rw [talk_q_zero, List.drop_zero, List.take_zero, talk_side hv, talk_side hv]; simp only [saysPk, List.flatMap_nil, List.append_nil, hello, List.length_cons, List.length_nil]; (refine le_ev [] ?_; simp only [hm, go_sem, ↓reduceIte]; first | done | rfl | exact ⟨rfl, rfl⟩)) ?_
    intro i hi
    unfold pc78l1
    rcases Nat.lt_or_ge i t.says.length with hil | hil
    · have hw : IntKind.i64.wrap ((i : Int) + 1) = ((i + 1 : Nat) : Int) := by rw [wrap64 (by omega) (by omega)]; omega
      have hg := getD_map (f := Say.row) hil
      obtain ⟨hq1, hq2⟩ := talk_q hil
      have hqe := talk_q_le (show i + 1 ≤ t.says.length from hil)
      have hsay := hsays _ (List.getElem_mem hil)
      have hmi := hmany i hil
      generalize hsd : t.says[i] = s at hg hq1 hq2 hsay hmi
      obtain ⟨b1, b2, _⟩ := hsay
      simp only [Int.toNat_natCast, hg, Say.row, hm, go_sem, ↓reduceIte]
      repeat' first | refine And.intro ?_ ?_ | intro _ | (refine call_pure (hP ▸ s_l41Many s.text t.size (by omega)) rfl rfl ?_; simp only [Int.toNat_natCast, hg, Say.row, hmi, hm, go_sem, ↓reduceIte])
      all_goals first
        | omega
        | rfl
        | skip
      refine lp_wpc (α := Nat) (fun q => ⟨[(1, .ptr 0 0 0), (3, .sl 1 0 ((hello t).length + (saysPk t (t.all.take q)).length)), (4, .r (.ro none ((sideL false (t.all.drop q)).map Data.row))), (5, .r (.ro none ((sideL true (t.all.drop q)).map Data.row))), (6, .i i), (7, .bo s.byB), (8, .i (t.q (i + 1) - q : Nat))],
          [(1, .row 4 ((hello t ++ saysPk t (t.all.take q)).map Packet.row)), (0, .var [.i t.fr, .i t.to, .i t.a.tag, .i t.a.window, .i t.a.streams, .i t.a.tsn, .i t.b.tag, .i t.b.window, .i t.b.streams, .i t.b.tsn, .i t.size, .r (.ro none (t.says.map Say.row))])], 2, []⟩)
        (fun q => t.q i ≤ q ∧ q ≤ t.q (i + 1)) (fun q => t.q (i + 1) - q) (t.q i) ⟨Nat.le_refl _, by omega⟩ (by rw [hq1, Nat.add_sub_cancel_left]; (refine le_ev [] ?_; simp only [hm, go_sem, ↓reduceIte]; first | done | rfl | exact ⟨rfl, rfl⟩)) ?_
      rintro q ⟨hqa, hqb⟩
      unfold pc78l0
      rcases Nat.lt_or_ge q (t.q (i + 1)) with hql | hql
      · have hqal : q < t.all.length := by omega
        have hdt := side_drop hqal true
        have hdf := side_drop hqal false
        have hpk := saysPk_take (t := t) hqal
        have hbb := hq2 q hqal hqa hql
        have hdok := talkAll_data hv (List.getElem_mem hqal)
        have htsn := (data_ok hdok).1
        have hwk : IntKind.i64.wrap (((t.q (i + 1) - q : Nat) : Int) - 1) = ((t.q (i + 1) - (q + 1) : Nat) : Int) := by rw [wrap64 (by omega) (by omega)]; omega
        have hsl : (saysPk t (t.all.take q)).length = 2 * q := by rw [saysPk_len, List.length_take]; omega
        have hsl2 : (saysPk t (t.all.take (q + 1))).length = 2 * (q + 1) := by rw [saysPk_len, List.length_take]; omega
        generalize hx : t.all[q] = x at hdt hdf hpk hbb hdok htsn
        obtain ⟨xb, d⟩ := x
        simp only at hdt hdf hpk hbb hdok htsn
        have hln : ((t.q (i + 1) - q : Nat) : Int) > 0 := by omega
        have hh : (hello t).length = 4 := rfl
        have hrw : List.take ((hello t).length + (saysPk t (t.all.take q)).length) ((hello t ++ saysPk t (t.all.take q)).map Packet.row) = (hello t ++ saysPk t (t.all.take q)).map Packet.row := List.take_of_length_le (by rw [List.length_map, List.length_append]; exact Nat.le_refl _)
        cases xb
        all_goals
          simp only [if_true, if_false, Bool.false_eq_true, Bool.true_eq_false] at hdt hdf
          simp only [← hbb, hdt, hdf, List.map_cons, Data.row, hwk, Int.toNat_natCast, hm, go_sem, ↓reduceIte]
          repeat' first | refine And.intro ?_ ?_ | intro _
          all_goals first
            | omega
            | rfl
            | (rename_i hr
               first
                 | (rcases List.mem_cons.1 hr with rfl | hr <;> first | rfl | (obtain ⟨_, _, rfl⟩ := List.mem_map.1 hr; rfl))
                 | (rcases hr with rfl | hr <;> first | rfl | (obtain ⟨_, _, rfl⟩ := List.mem_map.1 hr; rfl)))
            | skip
          rw [take_map_len]
          refine call_data (hP ▸ s_specDataPut d hdok) rfl rfl ?_
          simp only [Chunk.av, hm, go_sem, ↓reduceIte]
          refine call_data (hP ▸ s_specSackPut0 d.tsn htsn) rfl rfl ?_
          simp only [Chunk.av, hm, go_sem, ↓reduceIte]
          repeat' first
            | refine And.intro ?_ ?_
            | (refine call_frz 5 rfl rfl (by simp only [go_sem, ↓reduceIte]) ?_; simp only [hm, go_sem, ↓reduceIte]; refine call_data (hP ▸ s_l41Packet t true (dataPut d)) rfl rfl ?_; simp only [onePk_av, hm, go_sem, ↓reduceIte])
            | (refine call_frz 5 rfl rfl (by simp only [go_sem, ↓reduceIte]) ?_; simp only [hm, go_sem, ↓reduceIte]; refine call_data (hP ▸ s_l41Packet t true (sackPut ⟨d.tsn, []⟩)) rfl rfl ?_; simp only [onePk_av, hm, go_sem, ↓reduceIte])
            | (refine call_frz 5 rfl rfl (by simp only [go_sem, ↓reduceIte]) ?_; simp only [hm, go_sem, ↓reduceIte]; refine call_data (hP ▸ s_l41Packet t false (dataPut d)) rfl rfl ?_; simp only [onePk_av, hm, go_sem, ↓reduceIte])
            | (refine call_frz 5 rfl rfl (by simp only [go_sem, ↓reduceIte]) ?_; simp only [hm, go_sem, ↓reduceIte]; refine call_data (hP ▸ s_l41Packet t false (sackPut ⟨d.tsn, []⟩)) rfl rfl ?_; simp only [onePk_av, hm, go_sem, ↓reduceIte])
            | (refine call_frz 6 rfl rfl (by simp only [go_sem, ↓reduceIte]) ?_; simp only [hm, go_sem, ↓reduceIte]; refine call_data (hP ▸ s_l41Packet t true (dataPut d)) rfl rfl ?_; simp only [onePk_av, hm, go_sem, ↓reduceIte])
            | (refine call_frz 6 rfl rfl (by simp only [go_sem, ↓reduceIte]) ?_; simp only [hm, go_sem, ↓reduceIte]; refine call_data (hP ▸ s_l41Packet t true (sackPut ⟨d.tsn, []⟩)) rfl rfl ?_; simp only [onePk_av, hm, go_sem, ↓reduceIte])
            | (refine call_frz 6 rfl rfl (by simp only [go_sem, ↓reduceIte]) ?_; simp only [hm, go_sem, ↓reduceIte]; refine call_data (hP ▸ s_l41Packet t false (dataPut d)) rfl rfl ?_; simp only [onePk_av, hm, go_sem, ↓reduceIte])
            | (refine call_frz 6 rfl rfl (by simp only [go_sem, ↓reduceIte]) ?_; simp only [hm, go_sem, ↓reduceIte]; refine call_data (hP ▸ s_l41Packet t false (sackPut ⟨d.tsn, []⟩)) rfl rfl ?_; simp only [onePk_av, hm, go_sem, ↓reduceIte])
            | (refine call_frz 7 rfl rfl (by simp only [go_sem, ↓reduceIte]) ?_; simp only [hm, go_sem, ↓reduceIte]; refine call_data (hP ▸ s_l41Packet t true (dataPut d)) rfl rfl ?_; simp only [onePk_av, hm, go_sem, ↓reduceIte])
            | (refine call_frz 7 rfl rfl (by simp only [go_sem, ↓reduceIte]) ?_; simp only [hm, go_sem, ↓reduceIte]; refine call_data (hP ▸ s_l41Packet t true (sackPut ⟨d.tsn, []⟩)) rfl rfl ?_; simp only [onePk_av, hm, go_sem, ↓reduceIte])
            | (refine call_frz 7 rfl rfl (by simp only [go_sem, ↓reduceIte]) ?_; simp only [hm, go_sem, ↓reduceIte]; refine call_data (hP ▸ s_l41Packet t false (dataPut d)) rfl rfl ?_; simp only [onePk_av, hm, go_sem, ↓reduceIte])
            | (refine call_frz 7 rfl rfl (by simp only [go_sem, ↓reduceIte]) ?_; simp only [hm, go_sem, ↓reduceIte]; refine call_data (hP ▸ s_l41Packet t false (sackPut ⟨d.tsn, []⟩)) rfl rfl ?_; simp only [onePk_av, hm, go_sem, ↓reduceIte])
          all_goals first
            | omega
            | (refine ⟨q + 1, ⟨by omega, by omega⟩, by omega, ?_⟩
               rw [hrw, hpk, hwk]
               simp only [List.map_append, List.append_assoc, List.map_cons, List.map_nil, onePk_row, List.length_append, List.length_cons, List.length_nil, Nat.add_assoc, Bool.not_true, Bool.not_false]
               (refine le_ev [(0, 0), (1, 1)] ?_; simp only [hm, go_sem, ↓reduceIte]; first | done | rfl | exact ⟨rfl, rfl⟩))
      · have : q = t.q (i + 1) := by omega
        subst this
        simp only [hw, Nat.sub_self, hm, go_sem, ↓reduceIte]
        repeat' first | refine And.intro ?_ ?_ | intro _
        all_goals first
          | omega
          | (refine ⟨i + 1, hil, by omega, ?_⟩; (refine le_ev [] ?_; simp only [hm, go_sem, ↓reduceIte]; first | done | rfl | exact ⟨rfl, rfl⟩))
    · have : i = t.says.length := by omega
      subst this
      rw [talk_q_end, List.take_length]
      simp only [hm, go_sem, ↓reduceIte]
      repeat' first | refine And.intro ?_ ?_ | intro _
      all_goals first
        | omega
        | (refine ⟨_, rfl, ?_⟩; (refine le_ev [] ?_; simp only [hm, go_sem, ↓reduceIte]; first | done | rfl | exact ⟨rfl, rfl⟩))
  rintro t0 rfl
  refine run_wpc _ _ _ _ _ ?_
  simp only [hm, go_sem, ↓reduceIte]
  have hh : (hello t).length = 4 := rfl
  have hsl : (saysPk t t.all).length = 2 * t.all.length := saysPk_len t t.all
  have hrw : List.take ((hello t).length + (saysPk t t.all).length) ((hello t ++ saysPk t t.all).map Packet.row) = (hello t ++ saysPk t t.all).map Packet.row := List.take_of_length_le (by rw [List.length_map, List.length_append]; exact Nat.le_refl _)
  have hpk : talkPk t = hello t ++ saysPk t t.all ++ bye t := by unfold talkPk; rw [if_pos hv]
  refine call_data (hP ▸ s_l41One t false 7) rfl rfl ?_
  simp only [onePk_av, hm, go_sem, ↓reduceIte]
  repeat' first
    | refine And.intro ?_ ?_
    | (refine call_data (hP ▸ s_l41One t true 8) rfl rfl ?_; simp only [onePk_av, hm, go_sem, ↓reduceIte])
    | (refine call_data (hP ▸ s_l41One t false 14) rfl rfl ?_; simp only [onePk_av, hm, go_sem, ↓reduceIte])
  all_goals first
    | omega
    | rfl
    | (rw [hpk, hrw]
       refine ⟨1, ?_, ?_⟩
       · simp [bye, Nat.add_assoc]
       · simp only [go_sem, ↓reduceIte, List.map_append, bye, List.map_cons, List.map_nil, onePk_row])
end Go.Cap

/- Contracts: sums; bytes of chunks and packets, twice. -/
namespace Go.Cap
open Go Go.Proofs
set_option maxRecDepth 100000
set_option linter.unusedSimpArgs false
set_option linter.unusedVariables false
attribute [local irreducible] Call Run Spec Le

theorem sum_step {a b : Int} {x : UInt8} (ha : 0 ≤ a ∧ a < 65536) (hb : 0 ≤ b ∧ b < 65536) : (IntKind.i64.wrap (a + IntKind.i64.wrap (x.toNat : Int))).tmod 65521 = (a + x.toNat) % 65521 ∧ (IntKind.i64.wrap (b + (a + x.toNat) % 65521)).tmod 65521 = (b + (a + x.toNat) % 65521) % 65521 := by
  have hx := byte_lt x
  have h1 : IntKind.i64.wrap (x.toNat : Int) = x.toNat := wrap64 (by omega) (by omega)
  rw [h1, wrap64 (by omega) (by omega), wrap64 (x := b + _) (by omega) (by omega)]
  exact ⟨Int.tmod_eq_emod_of_nonneg (by omega), Int.tmod_eq_emod_of_nonneg (by omega)⟩
theorem getD_eq {s : List UInt8} {i : Nat} (h : i < s.length) : s.getD i 0 = s[i] := by simp [List.getD_eq_getElem?_getD, h]
theorem s_l2Next (s : List UInt8) (hs : s.length ≤ 1000000) : Spec Try.prog 118 0 [] [.i 1, .st s] (fun r _ _ _ => r = .i (sumOf s)) := by
  refine mk118 rfl fun c hP hm => ?_
  unfold pc118
  have t1 : (1 : Int).tmod 65536 = 1 := by decide
  have t2 : IntKind.i64.wrap ((1 : Int).tdiv 65536) = 0 := by decide
  simp only [t1, t2, hm, go_sem, ↓reduceIte]
  refine lp_wpc (α := Nat) (fun i => ⟨[(1, .st s), (5, .i (adl (s.take i) 1 0).1), (6, .i (adl (s.take i) 1 0).2), (7, .i i)], [], 0, []⟩) (fun i => i ≤ s.length) (fun i => s.length - i) 0 (Nat.zero_le _) (by rw [List.take_zero, adl]; (refine le_ev [] ?_; simp only [hm, go_sem, ↓reduceIte]; first | done | rfl | exact ⟨rfl, rfl⟩)) ?_
  intro i hi
  unfold pc118l0
  rcases Nat.lt_or_ge i s.length with hil | hil
  · have hw : IntKind.i64.wrap ((i : Int) + 1) = ((i + 1 : Nat) : Int) := by rw [wrap64 (by omega) (by omega)]; omega
    obtain ⟨r1, r2⟩ := adl_range (s.take i) 1 0 (by omega) (by omega)
    have hst := adl_take hil 1 0
    have hgd := getD_eq hil
    generalize adl (s.take i) 1 0 = ab at r1 r2 hst
    generalize s[i] = x at hst hgd
    obtain ⟨e1, e2⟩ := sum_step (a := ab.1) (b := ab.2) (x := x) (by omega) (by omega)
    simp only [hw, hgd, e1, e2, Int.toNat_natCast, hm, go_sem, ↓reduceIte]
    repeat' first | refine And.intro ?_ ?_ | intro _
    all_goals first
      | omega
      | (refine ⟨i + 1, hil, by omega, ?_⟩; rw [hst]; (refine le_ev [] ?_; simp only [hm, go_sem, ↓reduceIte]; first | done | rfl | exact ⟨rfl, rfl⟩))
  · have : i = s.length := by omega
    subst this
    rw [List.take_length]
    obtain ⟨r1, r2⟩ := adl_range s 1 0 (by omega) (by omega)
    have hf : IntKind.i64.wrap (IntKind.i64.wrap (65536 * (adl s 1 0).2) + (adl s 1 0).1) = sumOf s := by
      unfold sumOf
      rw [wrap64 (x := 65536 * (adl s 1 0).2) (by omega) (by omega), wrap64 (by omega) (by omega)]
    simp only [hf, hm, go_sem, ↓reduceIte]
    repeat' first | refine And.intro ?_ ?_ | intro _
    all_goals first
      | omega
      | rfl
/-- The bytes of a chunk without its end. -/
def chunkHead (c : Chunk) : List UInt8 := [u8 c.kind, u8 c.flags] ++ word (4 + c.body.length : Nat) ++ c.body
theorem chunkHead_len (c : Chunk) : (chunkHead c).length = 4 + c.body.length := by simp [chunkHead, word]; omega
theorem kb {k f : Int} (hk : 0 ≤ k ∧ k ≤ 255) (hf : 0 ≤ f ∧ f ≤ 255) : [byteOf [.n .u8 (IntKind.u8.wrap k)], byteOf [.n .u8 (IntKind.u8.wrap f)]] = [u8 k, u8 f] := by
  simp only [byteOf_u8, wrap_u8]
  rw [Int.emod_eq_of_lt (a := k) (by omega) (by omega), Int.emod_eq_of_lt (a := f) (by omega) (by omega)]
theorem pad_mod {n j : Nat} (hn : n ≤ 60) (hj : j ≤ padN n) : (((4 + n + j : Nat) : Int).tmod 4 = 0) ↔ j = padN n := by
  rw [Int.tmod_eq_emod_of_nonneg (by omega)]
  unfold padN at hj ⊢
  omega
theorem loop_l11Put {cx : Cx} (hP : cx.P = Try.prog) (hm : cx.m = 0) (c : Chunk) (h3 : c.body.length ≤ 60) {s0 : St} {n r : St → Prop} {x : Nat → St → Prop}
    (hs : Le cx s0 ⟨[(3, .st (chunkHead c ++ List.replicate 0 0))], [], 0, []⟩) (hx : x 0 ⟨[(3, .st (chunkPut c))], [], 0, []⟩) : Run cx (.lp pc117l0) s0 n x r := by
  have hhl := chunkHead_len c
  refine run_exit 0 (fun t0 => t0 = ⟨[(3, .st (chunkPut c))], [], 0, []⟩) ?_ (fun t0 h => by rw [h]; exact hx)
  refine lp_wpc (α := Nat) (fun j => ⟨[(3, .st (chunkHead c ++ List.replicate j 0))], [], 0, []⟩) (fun j => j ≤ padN c.body.length) (fun j => padN c.body.length - j) 0 (Nat.zero_le _) hs ?_
  intro j hj
  unfold pc117l0
  have hpm := pad_mod h3 hj
  have hp4 := (padN_lt c.body.length).1
  have hll : ((chunkHead c).length + j) = 4 + c.body.length + j := by omega
  simp only [List.length_append, List.length_replicate, hll, hm, go_sem, ↓reduceIte]
  repeat' first | refine And.intro ?_ ?_ | intro _
  all_goals first
    | omega
    | (rename_i hne
       refine ⟨j + 1, ?_, ?_, ?_⟩
       · have : j ≠ padN c.body.length := fun e => hne (hpm.2 e)
         omega
       · have : j ≠ padN c.body.length := fun e => hne (hpm.2 e)
         omega
       · rw [List.append_assoc, ← List.replicate_succ' (n := j) (a := (0 : UInt8))]
         (refine le_ev [] ?_; simp only [hm, go_sem, ↓reduceIte]; first | done | rfl | exact ⟨rfl, rfl⟩))
    | (rename_i he; rw [hpm.1 he]; refine ⟨_, rfl, ?_⟩; unfold chunkPut chunkHead; (refine le_ev [] ?_; simp only [hm, go_sem, ↓reduceIte]; first | done | rfl | exact ⟨rfl, rfl⟩))
theorem s_l11Put (c : Chunk) (h : chunkB c = true) : Spec Try.prog 117 0 [] [c.av] (fun r _ _ _ => r = .st (chunkPut c)) := by
  have h' := h
  simp only [chunkB, inB, Bool.and_eq_true, decide_eq_true_eq] at h'
  obtain ⟨⟨h1, h2⟩, h3⟩ := h'
  refine mk117 rfl fun cx hP hm => ?_
  unfold pc117 Chunk.av
  have hw : IntKind.i64.wrap (4 + (c.body.length : Int)) = ((4 + c.body.length : Nat) : Int) := by rw [wrap64 (by omega) (by omega)]; omega
  have hk := kb h1 h2
  have hb2 : u8 c.kind :: u8 c.flags :: (word ((4 + c.body.length : Nat) : Int) ++ c.body) = chunkHead c ++ List.replicate 0 0 := by rw [List.replicate_zero, List.append_nil]; rfl
  simp only [hw, hk, hm, go_sem, ↓reduceIte]
  repeat' first
    | refine And.intro ?_ ?_
    | intro _
    | (refine call_pure (hP ▸ s_l1Word ((4 + c.body.length : Nat) : Int) (by omega)) rfl rfl ?_; simp only [hk, word_len, List.length_append, List.length_cons, List.length_nil, List.cons_append, List.nil_append, hm, go_sem, ↓reduceIte])
  all_goals first
    | omega
    | (rename_i hr; rcases hr with rfl | rfl <;> exact ⟨_, rfl⟩)
    | (rw [hw]; done)
    | (refine loop_l11Put hP hm c h3 (by rw [← hb2]; (refine le_ev [] ?_; simp only [hm, go_sem, ↓reduceIte]; first | done | rfl | exact ⟨rfl, rfl⟩)) ?_
       simp only [hm, go_sem, ↓reduceIte])
theorem chunkPut_le {c : Chunk} (h : chunkB c = true) : (chunkPut c).length ≤ 64 := by
  simp only [chunkB, inB, Bool.and_eq_true, decide_eq_true_eq] at h
  rw [chunkPut_len]
  have := padN_lt c.body.length
  unfold padN at *; omega
theorem rest_le : ∀ (l : List Chunk), (∀ c ∈ l, chunkB c = true) → (l.flatMap chunkPut).length ≤ 64 * l.length
  | [], _ => by simp
  | c :: l, h => by
    have h1 := chunkPut_le (h c (by simp))
    have h2 := rest_le l fun x hx => h x (by simp [hx])
    rw [List.flatMap_cons, List.length_append, List.length_cons]; omega
theorem packHead_len (p : Packet) : (packHead p).length = 8 := by simp [packHead, word, long]
end Go.Cap

/- Contracts: bytes of packets (the reference's). -/
namespace Go.Cap
open Go Go.Proofs
set_option maxRecDepth 100000
set_option linter.unusedSimpArgs false
set_option linter.unusedVariables false
attribute [local irreducible] Call Run Spec Le

theorem s_specChunkValid (c : Chunk) : Spec Try.prog 115 0 [] [c.av] (fun r _ _ _ => r = .bo (chunkB c)) := by
  refine mk115 rfl fun cx hP hm => ?_
  unfold pc115 Chunk.av
  simp only [hm, go_sem, ↓reduceIte]
  repeat' first | refine And.intro ?_ ?_ | intro _ | (refine c_l6In hP ?_; simp only [hm, go_sem, ↓reduceIte])
  all_goals (apply bo_inj; rw [Bool.eq_iff_iff]; simp [chunkB, *] <;> omega)
theorem s_specPacketValid (p : Packet) (hl : p.chunks.length ≤ 1000000) : Spec Try.prog 103 0 [] [p.ro] (fun r _ _ _ => r = .bo (packB p)) := by
  refine mr103 rfl fun c hP hm => ?_
  unfold pc103 Packet.ro
  refine run_seq (run_wpc _ _ _ _ _ ?_)
  simp only [hm, go_sem, ↓reduceIte]
  refine run_seq (run_wpc _ _ _ _ _ ?_)
  simp only [hm, go_sem, ↓reduceIte]
  refine run_exit 0 (fun t0 => t0 = ⟨[(1, .ptr 0 0 0)], [(0, .var [.i p.fr, .i p.to, .i p.tag, .r (.ro none (p.chunks.map Chunk.row))])], 1, []⟩ ∧ p.chunks.all chunkB = true) ?_ ?_
  · refine lp_wpc (α := Nat) (fun i => ⟨[(1, .ptr 0 0 0), (3, .i i)], [(0, .var [.i p.fr, .i p.to, .i p.tag, .r (.ro none (p.chunks.map Chunk.row))])], 1, []⟩)
      (fun i => i ≤ p.chunks.length ∧ ∀ c ∈ p.chunks.take i, chunkB c = true) (fun i => p.chunks.length - i) 0 ⟨Nat.zero_le _, fun c hc => by simp at hc⟩ (by (refine le_ev [] ?_; simp only [hm, go_sem, ↓reduceIte]; first | done | rfl | exact ⟨rfl, rfl⟩)) ?_
    rintro i ⟨hi, hI⟩
    unfold pc103l0
    rcases Nat.lt_or_ge i p.chunks.length with hil | hil
    · have hw : IntKind.i64.wrap ((i : Int) + 1) = ((i + 1 : Nat) : Int) := by rw [wrap64 (by omega) (by omega)]; omega
      have hg := getD_map (f := Chunk.row) hil
      have htk := take_get hil
      have hmem := List.getElem_mem hil
      generalize p.chunks[i] = x at hg htk hmem
      have hok : chunkB x = false → AV.r (RV.b false) = AV.bo (packB p) := fun h => by
        apply bo_inj; symm; rw [Bool.eq_false_iff]; intro hh
        simp only [packB, Bool.and_eq_true, List.all_eq_true] at hh
        rw [hh.2 x hmem] at h; cases h
      simp only [hw, Int.toNat_natCast, hg, Chunk.row, hm, go_sem, ↓reduceIte]
      repeat' first | refine And.intro ?_ ?_ | intro _ | (refine call_pure (hP ▸ s_specChunkValid x) rfl rfl ?_; simp only [hw, Int.toNat_natCast, hg, Chunk.row, hm, go_sem, ↓reduceIte])
      all_goals first
        | omega
        | rfl
        | (rename_i hc; exact hok hc)
        | (rename_i hc
           refine ⟨i + 1, ⟨hil, fun y hy => ?_⟩, by omega, ?_⟩
           · rw [htk] at hy
             rcases List.mem_append.1 hy with hy | hy
             · exact hI y hy
             · simp only [List.mem_singleton] at hy; subst hy; exact hc
           · (refine le_ev [] ?_; simp only [hm, go_sem, ↓reduceIte]; first | done | rfl | exact ⟨rfl, rfl⟩))
    · have : i = p.chunks.length := by omega
      subst this
      rw [List.take_length] at hI
      have hall : p.chunks.all chunkB = true := List.all_eq_true.2 hI
      simp only [hm, go_sem, ↓reduceIte]
      repeat' first | refine And.intro ?_ ?_ | intro _
      all_goals first
        | omega
        | (refine ⟨_, ⟨rfl, hall⟩, ?_⟩; (refine le_ev [] ?_; simp only [hm, go_sem, ↓reduceIte]; first | done | rfl | exact ⟨rfl, rfl⟩))
  rintro t0 ⟨rfl, hall⟩
  rw [if_pos rfl]
  refine run_wpc _ _ _ _ _ ?_
  simp only [hm, go_sem, ↓reduceIte]
  repeat' first | refine And.intro ?_ ?_ | intro _ | (refine c_l6In hP ?_; simp only [hm, go_sem, ↓reduceIte])
  all_goals first
    | (apply bo_inj; rw [Bool.eq_iff_iff]; simp [packB, hall, *]; done)
    | (apply bo_inj; rw [Bool.eq_iff_iff]; simp [packB, hall, inB, *]; omega)
    | (apply bo_inj; rw [Bool.eq_iff_iff]; simp only [packB, hall, Bool.and_eq_true, decide_eq_true_eq, *]; simp [inB] at *; omega)
theorem s_l13Sum (s : List UInt8) (h : 12 ≤ s.length ∧ s.length ≤ 10000) : Spec Try.prog 107 0 [] [.st s] (fun r _ _ _ => r = .i (sumOf (s.take 8 ++ [0, 0, 0, 0] ++ s.drop 12))) := by
  refine mk107 rfl fun c hP hm => ?_
  unfold pc107
  have e8 : (8 : Int).toNat = 8 := by decide
  have e12 : (12 : Int).toNat = 12 := by decide
  have et : List.take s.length s = s := List.take_length
  simp only [e8, e12, et, Int.toNat_natCast, List.drop_zero, List.length_append, List.length_take, List.length_drop, List.length_cons, List.length_nil, hm, go_sem, ↓reduceIte]
  repeat' first | refine And.intro ?_ ?_ | intro _
  all_goals first
    | omega
    | (refine call_pure (hP ▸ s_l2Next (s.take 8 ++ [0, 0, 0, 0] ++ s.drop 12) (by simp only [List.length_append, List.length_take, List.length_drop, List.length_cons, List.length_nil]; omega)) rfl rfl ?_
       simp only [e8, e12, et, Int.toNat_natCast, List.drop_zero, List.length_append, List.length_take, List.length_drop, List.length_cons, List.length_nil, hm, go_sem, ↓reduceIte]
       repeat' first | refine And.intro ?_ ?_ | intro _
       all_goals first
         | omega
         | rfl
         )
theorem s_l13Put (p : Packet) (hv : packB p = true) : Spec Try.prog 104 0 [] [p.ro] (fun r _ _ _ => r = .st (packRaw p)) := by
  have h' := hv
  simp only [packB, inB, Bool.and_eq_true, decide_eq_true_eq, List.all_eq_true] at h'
  obtain ⟨⟨⟨⟨⟨h1, h2⟩, h3⟩, h4⟩, h5⟩, h6⟩ := h'
  have hhl := packHead_len p
  have hrl : (packRest p).length ≤ 256 := by have := rest_le p.chunks h6; unfold packRest; omega
  have hsum := sumOf_range (packHead p ++ [0, 0, 0, 0] ++ packRest p)
  refine mr104 rfl fun c hP hm => ?_
  unfold pc104 Packet.ro
  refine run_seq (run_wpc _ _ _ _ _ ?_)
  simp only [hm, go_sem, ↓reduceIte]
  refine run_join (fun t => t = ⟨[(1, .ptr 0 0 0), (3, .st (packHead p ++ [0, 0, 0, 0]))], [(0, .var [.i p.fr, .i p.to, .i p.tag, .r (.ro none (p.chunks.map Chunk.row))])], 1, []⟩) (run_wpc _ _ _ _ _ ?_) ?_
  · simp only [hm, go_sem, ↓reduceIte]
    repeat' first
      | refine And.intro ?_ ?_
      | intro _
      | (refine call_pure (hP ▸ s_l1Word p.fr (by omega)) rfl rfl ?_; simp only [word_len, long_len, List.length_append, hm, go_sem, ↓reduceIte])
      | (refine call_pure (hP ▸ s_l1Word p.to (by omega)) rfl rfl ?_; simp only [word_len, long_len, List.length_append, hm, go_sem, ↓reduceIte])
      | (refine call_pure (hP ▸ s_l1Long p.tag (by omega)) rfl rfl ?_; simp only [word_len, long_len, List.length_append, hm, go_sem, ↓reduceIte])
    all_goals first
      | omega
      | rfl
      | (refine ⟨_, rfl, ?_⟩; unfold packHead; (refine le_ev [] ?_; simp only [hm, go_sem, ↓reduceIte]; first | done | rfl | exact ⟨rfl, rfl⟩))
  rintro t rfl
  refine run_seq (run_wpc _ _ _ _ _ ?_)
  simp only [hm, go_sem, ↓reduceIte]
  refine run_exit 0 (fun t0 => t0 = ⟨[(3, .st (packHead p ++ [0, 0, 0, 0] ++ packRest p))], [], 0, []⟩) ?_ ?_
  · refine lp_wpc (α := Nat) (fun i => ⟨[(1, .ptr 0 0 0), (3, .st (packHead p ++ [0, 0, 0, 0] ++ (p.chunks.take i).flatMap chunkPut)), (4, .i i)], [(0, .var [.i p.fr, .i p.to, .i p.tag, .r (.ro none (p.chunks.map Chunk.row))])], 1, []⟩)
      (fun i => i ≤ p.chunks.length) (fun i => p.chunks.length - i) 0 (Nat.zero_le _) (by rw [List.take_zero, List.flatMap_nil, List.append_nil]; (refine le_ev [] ?_; simp only [hm, go_sem, ↓reduceIte]; first | done | rfl | exact ⟨rfl, rfl⟩)) ?_
    intro i hi
    unfold pc104l0
    rcases Nat.lt_or_ge i p.chunks.length with hil | hil
    · have hw : IntKind.i64.wrap ((i : Int) + 1) = ((i + 1 : Nat) : Int) := by rw [wrap64 (by omega) (by omega)]; omega
      have hg := getD_map (f := Chunk.row) hil
      have htk : (p.chunks.take (i + 1)).flatMap chunkPut = (p.chunks.take i).flatMap chunkPut ++ chunkPut p.chunks[i] := by rw [take_get hil, List.flatMap_append]; simp
      have hc := h6 _ (List.getElem_mem hil)
      have hcl := chunkPut_le hc
      have hrl2 := rest_le (p.chunks.take i) fun c hc => h6 c (List.mem_of_mem_take hc)
      rw [List.length_take] at hrl2
      generalize p.chunks[i] = x at hg htk hc hcl
      simp only [hw, Int.toNat_natCast, hg, Chunk.row, List.length_append, List.length_cons, List.length_nil, hhl, hm, go_sem, ↓reduceIte]
      repeat' first | refine And.intro ?_ ?_ | intro _ | (refine call_pure (hP ▸ s_l11Put x hc) rfl rfl ?_; simp only [hw, Int.toNat_natCast, hg, Chunk.row, List.length_append, List.length_cons, List.length_nil, hhl, hm, go_sem, ↓reduceIte])
      all_goals first
        | omega
        | rfl
        | (refine ⟨i + 1, hil, by omega, ?_⟩; rw [htk, ← List.append_assoc]; (refine le_ev [] ?_; simp only [hm, go_sem, ↓reduceIte]; first | done | rfl | exact ⟨rfl, rfl⟩))
    · have : i = p.chunks.length := by omega
      subst this
      rw [List.take_length]
      simp only [hm, go_sem, ↓reduceIte]
      repeat' first | refine And.intro ?_ ?_ | intro _
      all_goals first
        | omega
        | (refine ⟨_, rfl, ?_⟩; unfold packRest; (refine le_ev [] ?_; simp only [hm, go_sem, ↓reduceIte]; first | done | rfl | exact ⟨rfl, rfl⟩))
  rintro t0 rfl
  rw [if_pos rfl]
  refine run_wpc _ _ _ _ _ ?_
  have hh4 : (packHead p ++ [0, 0, 0, 0]).length = 12 := by rw [List.length_append, hhl]; rfl
  have hol : (packHead p ++ [0, 0, 0, 0] ++ packRest p).length = 12 + (packRest p).length := by rw [List.length_append, hh4]
  have ht8 : (packHead p ++ [0, 0, 0, 0] ++ packRest p).take 8 = packHead p := by rw [List.append_assoc, List.take_left' hhl]
  have hd12 : (packHead p ++ [0, 0, 0, 0] ++ packRest p).drop 12 = packRest p := List.drop_left' hh4
  have hss := s_l13Sum (packHead p ++ [0, 0, 0, 0] ++ packRest p) (by omega)
  rw [ht8, hd12] at hss
  have hraw : packRaw p = packHead p ++ long (sumOf (packHead p ++ [0, 0, 0, 0] ++ packRest p)) ++ packRest p := rfl
  rw [hraw]
  generalize sumOf (packHead p ++ [0, 0, 0, 0] ++ packRest p) = sm at hss hsum
  generalize hout : packHead p ++ [0, 0, 0, 0] ++ packRest p = out at hol ht8 hd12 hss
  have e8 : (8 : Int).toNat = 8 := by decide
  have e12 : (12 : Int).toNat = 12 := by decide
  have et : List.take out.length out = out := List.take_length
  simp only [e8, e12, et, ht8, hd12, Int.toNat_natCast, List.drop_zero, hm, go_sem, ↓reduceIte]
  repeat' first
    | refine And.intro ?_ ?_
    | intro _
    | (refine call_pure (hP ▸ hss) rfl rfl ?_; simp only [e8, e12, et, ht8, hd12, Int.toNat_natCast, List.drop_zero, List.length_append, long_len, hhl, hm, go_sem, ↓reduceIte])
    | (refine call_pure (hP ▸ s_l1Long sm (by omega)) rfl rfl ?_; simp only [e8, e12, et, ht8, hd12, Int.toNat_natCast, List.drop_zero, List.length_append, long_len, hhl, hm, go_sem, ↓reduceIte])
  all_goals first
    | omega
    | rfl
theorem s_specPacketPut (p : Packet) (hl : p.chunks.length ≤ 1000000) : Spec Try.prog 79 0 [] [p.ro] (fun r _ _ _ => r = .st (packPut p)) := by
  refine mk79 rfl fun c hP hm => ?_
  unfold pc79 Packet.ro
  simp only [hm, go_sem, ↓reduceIte]
  refine call_pure (hP ▸ s_specPacketValid p hl) rfl rfl ?_
  unfold packPut
  cases hv : packB p
  · simp only [hm, go_sem, ↓reduceIte]
  · simp only [hm, go_sem, ↓reduceIte]
    refine call_pure (hP ▸ s_l13Put p hv) rfl rfl ?_
    simp only [hm, go_sem, ↓reduceIte]
end Go.Cap

/- Contracts: the reference reads parts, inits and receipts. -/
namespace Go.Cap
open Go Go.Proofs
set_option maxRecDepth 100000
set_option linter.unusedSimpArgs false
set_option linter.unusedVariables false
attribute [local irreducible] Call Run Spec Le

theorem s_l1At (s : List UInt8) (i : Int) (h : 0 ≤ i ∧ i + 1 < s.length) (hs : s.length ≤ 1000000000) : Spec Try.prog 106 0 [] [.st s, .i i] (fun r _ _ _ => r = .i (at2 s i.toNat)) := by
  refine mk106 rfl fun c hP hm => ?_
  unfold pc106
  simp only [hm, go_sem, ↓reduceIte]
  have h1 := byte_lt (s.getD i.toNat 0)
  have e : (i + 1).toNat = i.toNat + 1 := by omega
  have hw : IntKind.i64.wrap (i + 1) = i + 1 := wrap64 (by omega) (by omega)
  have h2 := byte_lt (s.getD (i.toNat + 1) 0)
  have h3 : (0 : Int) ≤ (s.getD i.toNat 0).toNat := Int.natCast_nonneg _
  have h4 : (0 : Int) ≤ (s.getD (i.toNat + 1) 0).toNat := Int.natCast_nonneg _
  unfold at2
  rw [hw, e]
  generalize ((s.getD i.toNat 0).toNat : Int) = a at *
  generalize ((s.getD (i.toNat + 1) 0).toNat : Int) = b at *
  repeat' first | refine And.intro ?_ ?_ | intro _
  all_goals first
    | omega
    | rfl
    | (simp (disch := omega) only [wrap64])
theorem c_l1At {c : Cx} (hP : c.P = Try.prog) {s : List UInt8} {i : Int} (h : 0 ≤ i ∧ i + 1 < s.length) (hs : s.length ≤ 1000000000) {st : St} {K : AV → St → Prop} (hK : K (.i (at2 s i.toNat)) st) : Call c 106 [.st s, .i i] st K :=
  call_pure (hP ▸ s_l1At s i h hs) rfl rfl hK
theorem tdiv_nn {a b : Int} (h : 0 ≤ a) : a.tdiv b = a / b := Int.tdiv_eq_ediv_of_nonneg h
theorem tmod_nn {a b : Int} (h : 0 ≤ a) : a.tmod b = a % b := Int.tmod_eq_emod_of_nonneg h
theorem beq_dec (a b : Int) : (a == b) = decide (a = b) := by by_cases h : a = b <;> simp [h]
theorem inB_iff {a b c : Int} : inB a b c = true ↔ b ≤ a ∧ a ≤ c := by unfold inB; simp
def dataRaw (k : Chunk) : Data := ⟨at2 k.body 0, at2 k.body 2, at2 k.body 4, (IntKind.i64.wrap (k.flags.tdiv 2)).tmod 2 == 1, k.flags.tmod 2 == 1, IntKind.i64.wrap (k.flags.tdiv 4) == 1, List.drop 6 (List.take ((k.body.length : Int)).toNat k.body)⟩
theorem dataOf_eq {k : Chunk} (hf : inB k.flags 0 7 = true) : dataOf k = dataRaw k := by
  obtain ⟨h0, h7⟩ := inB_iff.1 hf
  unfold dataOf dataRaw
  rw [tdiv_nn h0, tmod_nn h0, tdiv_nn h0, wrap64 (by omega) (by omega), wrap64 (by omega) (by omega), tmod_nn (by omega), beq_dec, beq_dec, beq_dec, Int.toNat_natCast, List.take_length]
theorem dataGet_none {k : Chunk} (h : k.kind = 0 → inB k.flags 0 7 = true → 6 ≤ k.body.length → dataB (dataOf k) = true → False) : dataGet k = none := by
  unfold dataGet
  rw [if_neg]
  simp only [Bool.and_eq_true, decide_eq_true_eq]
  rintro ⟨⟨⟨h1, h2⟩, h3⟩, h4⟩
  exact h h1 h2 h3 h4
theorem dataGet_some {k : Chunk} (h1 : k.kind = 0) (h2 : inB k.flags 0 7 = true) (h3 : 6 ≤ k.body.length) (h4 : dataB (dataOf k) = true) : dataGet k = some (dataOf k) := by
  unfold dataGet
  rw [if_pos]
  simp only [Bool.and_eq_true, decide_eq_true_eq]
  exact ⟨⟨⟨h1, h2⟩, h3⟩, h4⟩
theorem s_specDataGet (k : Chunk) (hs : k.body.length ≤ 1000000000) : Spec Try.prog 128 0 [] [k.av] (fun r _ _ _ => r = .tup [((dataGet k).getD noData).av, .bo (dataGet k).isSome]) := by
  refine mk128 rfl fun c hP hm => ?_
  unfold pc128 Chunk.av
  simp only [hm, go_sem, ↓reduceIte]
  repeat' first
    | refine And.intro ?_ ?_
    | intro _
    | (refine c_l6In hP ?_; simp only [hm, go_sem, ↓reduceIte])
    | (refine c_l1At hP (by omega) hs ?_; simp only [hm, go_sem, ↓reduceIte])
    | (refine call_pure (hP ▸ s_l12Data (dataRaw k) (by simp [dataRaw]; omega)) rfl rfl ?_; simp only [hm, go_sem, ↓reduceIte])
  all_goals first
    | omega
    | (rename_i hk hf hl hB; rw [dataGet_some hk hf (by omega) (by rw [dataOf_eq hf]; exact hB), dataOf_eq hf]; rfl)
    | (rename_i hB; rw [dataGet_none (k := k) fun h1 h2 h3 h4 => by rw [dataOf_eq h2, hB] at h4; cases h4]; rfl)
    | (rw [dataGet_none (k := k) fun h1 h2 h3 h4 => by first | omega | (simp_all; done)]; rfl)
theorem initGet_none {k : Chunk} (h : (k.kind = 1 ∨ k.kind = 2) → k.flags = 0 → k.body.length = 10 → initB (initOf k) = true → False) : initGet k = none := by
  unfold initGet
  rw [if_neg]
  simp only [Bool.and_eq_true, decide_eq_true_eq]
  rintro ⟨⟨⟨h1, h2⟩, h3⟩, h4⟩
  exact h h1 h2 h3 h4
theorem initGet_some {k : Chunk} (h1 : k.kind = 1 ∨ k.kind = 2) (h2 : k.flags = 0) (h3 : k.body.length = 10) (h4 : initB (initOf k) = true) : initGet k = some (initOf k) := by
  unfold initGet
  rw [if_pos]
  simp only [Bool.and_eq_true, decide_eq_true_eq]
  exact ⟨⟨⟨h1, h2⟩, h3⟩, h4⟩
theorem at4_wrap (s : List UInt8) (i : Nat) : IntKind.i64.wrap (IntKind.i64.wrap (65536 * at2 s i) + at2 s (i + 2)) = at4 s i := by
  have h1 := at2_range s i
  have h2 := at2_range s (i + 2)
  rw [wrap64 (x := 65536 * at2 s i) (by omega) (by omega), wrap64 (by omega) (by omega)]; rfl
theorem s_specInitGet (k : Chunk) (hs : k.body.length ≤ 1000000000) : Spec Try.prog 93 0 [] [k.av] (fun r _ _ _ => r = .tup [((initGet k).getD noInit).av, .bo (initGet k).isSome]) := by
  refine mk93 rfl fun c hP hm => ?_
  unfold pc93 Chunk.av
  have e4 := at4_wrap k.body 0
  simp only [hm, go_sem, ↓reduceIte]
  repeat' first
    | refine And.intro ?_ ?_
    | intro _
    | (refine c_l6In hP ?_; simp only [hm, go_sem, ↓reduceIte])
    | (refine c_l1At hP (by omega) hs ?_; simp only [hm, go_sem, ↓reduceIte])
    | (simp only [e4, hm, go_sem, ↓reduceIte]; refine call_pure (hP ▸ s_l12Init (initOf k)) rfl rfl ?_; simp only [hm, go_sem, ↓reduceIte])
    | (refine call_pure (hP ▸ s_l12Init ⟨_, _, _, _⟩) rfl rfl ?_; simp only [hm, go_sem, ↓reduceIte])
  all_goals first
    | omega
    | (rename_i hB; rw [initGet_some (k := k) (by omega) (by omega) (by omega) (by exact hB)]; rfl)
    | (rename_i hB; rw [initGet_none (k := k) fun h1 h2 h3 h4 => by rw [hB] at h4; cases h4]; rfl)
    | (rw [initGet_none (k := k) fun h1 h2 h3 h4 => by first | omega | (simp_all; done)]; rfl)
end Go.Cap

/- Contracts: steps of an association, chunk by chunk (the reference's): sides, ends, cookies, inits. -/
namespace Go.Cap
open Go Go.Proofs
set_option maxRecDepth 100000
set_option linter.unusedSimpArgs false
set_option linter.unusedVariables false
attribute [local irreducible] Call Run Spec Le

theorem s_l31Side (a : Assoc) (byB : Bool) : Spec Try.prog 121 0 [] [a.ro, .bo byB] (fun r _ _ _ => r = .tup [(a.own byB).ro, (a.other byB).ro]) := by
  refine mk121 rfl fun c hP hm => ?_
  unfold pc121 Assoc.ro Assoc.av
  cases byB <;> simp only [hm, go_sem, ↓reduceIte] <;> rfl
theorem s_l31With (a : Assoc) (byB : Bool) (s : Side) : Spec Try.prog 127 0 [] [a.ro, .bo byB, s.ro] (fun r _ _ _ => r = (a.put byB s).ro) := by
  refine mk127 rfl fun c hP hm => ?_
  unfold pc127 Assoc.ro Assoc.av Side.ro Side.av
  cases byB <;> simp only [hm, go_sem, ↓reduceIte] <;> rfl
def resA (x : Assoc × Int) : AV := .tup [x.1.ro, .i x.2]
theorem resA_eq {fr to st : Int} {bb : Bool} {A B : Side} {n : Int} {x : Assoc × Int} (h : ((⟨fr, to, st, bb, A, B⟩ : Assoc), n) = x) :
    AV.tup [.agg [.i fr, .i to, .i st, .bo bb, .i A.tag, .i A.streams, .i A.first, .r (.ro none (A.sent.map Data.row)), .i A.acked, .i B.tag, .i B.streams, .i B.first, .r (.ro none (B.sent.map Data.row)), .i B.acked], .i n] = resA x := by subst h; rfl
theorem inB_dec (a b c : Int) : inB a b c = decide (b ≤ a ∧ a ≤ c) := rfl
set_option maxHeartbeats 2000000 in
theorem s_l31End (a : Assoc) (byB : Bool) (k : Int) (hk : k = 6 ∨ k = 7 ∨ k = 8 ∨ k = 14) : Spec Try.prog 125 0 [] [a.ro, .bo byB, .i k] (fun r _ _ _ => r = resA (stepEnd a byB k)) := by
  refine mk125 rfl fun c hP hm => ?_
  unfold pc125
  have hS := s_l31Side a byB
  obtain ⟨fr, to, st, bb, A, B⟩ := a
  unfold Assoc.ro Assoc.av at hS ⊢
  simp only [hm, go_sem, ↓reduceIte]
  refine call_data (hP ▸ hS) (by cases byB <;> rfl) rfl ?_
  unfold stepEnd
  have hown : ∃ o o' : Side, (Assoc.mk fr to st bb A B).own byB = o ∧ (Assoc.mk fr to st bb A B).other byB = o' := ⟨_, _, rfl, rfl⟩
  obtain ⟨o, o', h1, h2⟩ := hown
  rw [h1, h2]
  clear hS h1 h2
  have hdone : ((o.acked == (o.sent.length : Int)) : Bool) = decide (o.acked = o.sent.length) := beq_dec _ _
  generalize decide (o.acked = o.sent.length) = done at *
  simp only [List.length_map, hdone, Side.ro, Side.av, hm, go_sem, ↓reduceIte]
  intro _
  rcases hk with rfl | rfl | rfl | rfl <;> cases byB <;> cases bb <;> cases done
  all_goals
    simp only [inB_dec, hm, go_sem, ↓reduceIte]
    repeat' first
      | refine And.intro ?_ ?_
      | intro _
      | (refine c_l6In hP ?_; simp only [inB_dec, hm, go_sem, ↓reduceIte])
  all_goals first
    | omega
    | (refine resA_eq ?_
       try simp only [inB_dec, Int.reduceEq, if_true, if_false, Bool.and_true, Bool.and_false, Bool.not_true, Bool.not_false, beq_self_eq_true, bne_self_eq_false, Bool.and_eq_true, decide_eq_true_eq, Bool.false_eq_true, reduceCtorEq]
       repeat' split
       all_goals first
         | rfl
         | (exfalso; omega)
         | (exfalso; simp_all; done)
         | (exfalso; simp_all; omega))
theorem s_l31Cookie (a : Assoc) (byB : Bool) (k : Int) : Spec Try.prog 126 0 [] [a.ro, .bo byB, .i k] (fun r _ _ _ => r = resA (stepRest a byB k)) := by
  refine mk126 rfl fun c hP hm => ?_
  obtain ⟨fr, to, st, bb, A, B⟩ := a
  unfold pc126 Assoc.ro Assoc.av stepRest
  cases byB
  all_goals
    simp only [inB_dec, hm, go_sem, ↓reduceIte]
    repeat' first
      | refine And.intro ?_ ?_
      | intro _
      | (refine c_l6In hP ?_; simp only [inB_dec, hm, go_sem, ↓reduceIte])
  all_goals first
    | omega
    | (refine resA_eq ?_
       try simp only [inB_dec, Int.max_def, Bool.true_and, Bool.false_and, Bool.not_true, Bool.not_false, Bool.and_eq_true, decide_eq_true_eq, Bool.false_eq_true, reduceCtorEq, if_true, if_false]
       repeat' split
       all_goals first
         | rfl
         | (exfalso; omega)
         | (exfalso; simp_all; done)
         | (exfalso; simp_all; omega)
         | (simp only [Prod.mk.injEq, Assoc.mk.injEq, true_and, and_true]; omega))
end Go.Cap

/- Contracts: steps of an association (the reference's): inits. -/
namespace Go.Cap
open Go Go.Proofs
set_option maxRecDepth 100000
set_option linter.unusedSimpArgs false
set_option linter.unusedVariables false
attribute [local irreducible] Call Run Spec Le

theorem resA_eq' {fr to st : Int} {bb : Bool} {t1 s1 f1 c1 t2 s2 f2 c2 : Int} {l1 l2 : List Data} {L1 L2 : List (List RV)} {n : Int} {x : Assoc × Int} (h1 : L1 = l1.map Data.row) (h2 : L2 = l2.map Data.row) (h : ((⟨fr, to, st, bb, ⟨t1, s1, f1, l1, c1⟩, ⟨t2, s2, f2, l2, c2⟩⟩ : Assoc), n) = x) :
    AV.tup [.agg [.i fr, .i to, .i st, .bo bb, .i t1, .i s1, .i f1, .r (.ro none L1), .i c1, .i t2, .i s2, .i f2, .r (.ro none L2), .i c2], .i n] = resA x := by subst h; subst h1; subst h2; rfl
set_option maxHeartbeats 2000000 in
theorem s_l31Init (a : Assoc) (byB : Bool) (k : Chunk) (hs : k.body.length ≤ 1000000000) : Spec Try.prog 122 0 [] [a.ro, .bo byB, k.av] (fun r _ _ _ => r = resA (stepInit a byB k)) := by
  have hS := s_l31Side a byB
  have hG := s_specInitGet k hs
  obtain ⟨fr, to, st, bb, A, B⟩ := a
  have hWt := fun x : Init => s_l31With ⟨fr, to, st + 1, bb, A, B⟩ byB ⟨x.tag, x.streams, x.tsn, [], 0⟩
  refine mk122 rfl fun c hP hm => ?_
  unfold pc122
  unfold stepInit
  unfold Assoc.ro Assoc.av at hS ⊢
  unfold Chunk.av at hG ⊢
  simp only [hm, go_sem, ↓reduceIte]
  refine call_data (hP ▸ hG) rfl rfl ?_
  have hw1 : st = 0 ∨ st = 1 → IntKind.i64.wrap (st + 1) = st + 1 := fun h => by rw [wrap64 (by omega) (by omega)]
  obtain ⟨kk, kf, kb⟩ := k
  generalize initGet ⟨kk, kf, kb⟩ = g
  cases g with
  | none =>
    cases byB
    all_goals
      simp only [Option.getD_none, Option.isSome_none, noInit, Init.av, inB_dec, hm, go_sem, ↓reduceIte]
      repeat' first
        | refine And.intro ?_ ?_
        | intro _
        | (refine c_l6In hP ?_; simp only [inB_dec, hm, go_sem, ↓reduceIte])
        | (refine call_data (hP ▸ hS) rfl rfl ?_; simp only [Assoc.own, Assoc.other, Side.ro, Side.av, Bool.false_eq_true, if_false, if_true, inB_dec, hm, go_sem, ↓reduceIte])
    all_goals first
      | omega
      | (refine resA_eq ?_
         try simp only [inB_dec, Bool.and_eq_true, Bool.or_eq_true, decide_eq_true_eq, Bool.not_eq_true', Bool.or_eq_false_iff, Bool.and_eq_false_iff, decide_eq_false_iff_not, Bool.and_true, Bool.and_false, Bool.or_false, Bool.false_or, Bool.not_true, Bool.not_false, Bool.true_and, Bool.false_and]
         repeat' split
         all_goals first
           | rfl
           | (exfalso; omega)
           | (exfalso; simp_all; done)
           | (exfalso; simp_all; omega))
  | some x =>
    cases byB
    all_goals
      simp only [Option.getD_some, Option.isSome_some, Init.av, inB_dec, hm, go_sem, ↓reduceIte]
      repeat' first
        | refine And.intro ?_ ?_
        | intro _
        | (refine c_l6In hP ?_; simp only [inB_dec, hm, go_sem, ↓reduceIte])
        | (refine call_data (hP ▸ hS) rfl rfl ?_; simp only [Assoc.own, Assoc.other, Side.ro, Side.av, Bool.false_eq_true, if_false, if_true, inB_dec, hm, go_sem, ↓reduceIte])
        | (refine call_frz 6 rfl rfl (by simp only [go_sem, ↓reduceIte]) ?_; rw [hw1 (by omega)]; simp only [List.drop_nil, List.take_nil, List.take_zero, hm, go_sem, ↓reduceIte]; refine call_data (hP ▸ hWt x) rfl rfl ?_; simp only [Assoc.put, Assoc.ro, Assoc.av, Bool.false_eq_true, if_false, if_true, inB_dec, hm, go_sem, ↓reduceIte])
    all_goals first
      | omega
      | (refine resA_eq ?_
         try simp only [Assoc.own, inB_dec, Bool.and_eq_true, Bool.or_eq_true, decide_eq_true_eq, Bool.not_eq_true', Bool.or_eq_false_iff, Bool.and_eq_false_iff, decide_eq_false_iff_not, Bool.and_true, Bool.and_false, Bool.or_false, Bool.false_or, Bool.not_true, Bool.not_false, Bool.true_and, Bool.false_and]
         repeat' split
         all_goals first
           | rfl
           | (exfalso; omega)
           | (exfalso; simp_all; done)
           | (exfalso; simp_all; omega))
      | (first | refine resA_eq' (l1 := []) rfl rfl ?_ | refine resA_eq' (l2 := []) rfl rfl ?_
         try simp only [Assoc.own, Assoc.put, inB_dec, Bool.and_eq_true, Bool.or_eq_true, decide_eq_true_eq, Bool.not_eq_true', Bool.or_eq_false_iff, Bool.and_eq_false_iff, decide_eq_false_iff_not, Bool.and_true, Bool.and_false, Bool.or_false, Bool.false_or, Bool.not_true, Bool.not_false, Bool.true_and, Bool.false_and]
         repeat' split
         all_goals first
           | rfl
           | (exfalso; omega)
           | (exfalso; simp_all; done)
           | (exfalso; simp_all; omega))
end Go.Cap

/- Contracts: steps of an association (the reference's): parts and receipts. -/
namespace Go.Cap
open Go Go.Proofs
set_option maxRecDepth 100000
set_option linter.unusedSimpArgs false
set_option linter.unusedVariables false
attribute [local irreducible] Call Run Spec Le

/-- What holds of a side that is watched. -/
def SW (s : Side) : Prop := (0 ≤ s.first ∧ s.first < 65536) ∧ s.sent.length ≤ 12 ∧ ∀ d ∈ s.sent, dataB d = true
def AW (a : Assoc) : Prop := SW a.a ∧ SW a.b
theorem AW.own {a : Assoc} (h : AW a) (b : Bool) : SW (a.own b) := by cases b; exact h.1; exact h.2
theorem AW.other {a : Assoc} (h : AW a) (b : Bool) : SW (a.other b) := by cases b; exact h.2; exact h.1
theorem AW.put {a : Assoc} (h : AW a) (b : Bool) {s : Side} (hs : SW s) : AW (a.put b s) := by cases b; exact ⟨hs, h.2⟩; exact ⟨h.1, hs⟩
theorem dataB_tsn {d : Data} (h : dataB d = true) : 0 ≤ d.tsn ∧ d.tsn < 65536 := by
  simp only [dataB, Bool.and_eq_true, serialB, decide_eq_true_eq] at h; omega
theorem dataB_text {d : Data} (h : dataB d = true) : d.text.length ≤ 20 := by
  simp only [dataB, Bool.and_eq_true, serialB, decide_eq_true_eq] at h; omega
theorem dataGet_ok {k : Chunk} {d : Data} (h : dataGet k = some d) : dataB d = true := by
  unfold dataGet at h
  split at h
  · rename_i hc
    simp only [Bool.and_eq_true] at hc
    cases h; exact hc.2
  · cases h
theorem initGet_ok {k : Chunk} {d : Init} (h : initGet k = some d) : initB d = true := by
  unfold initGet at h
  split at h
  · rename_i hc
    simp only [Bool.and_eq_true] at hc
    cases h; exact hc.2
  · cases h
theorem sackGet_ok {k : Chunk} {d : Sack} (h : sackGet k = some d) : sackB d = true := by
  unfold sackGet at h
  split at h
  · rename_i hc
    simp only [Bool.and_eq_true] at hc
    cases h; exact hc.2
  · cases h
theorem resA_a {a : Assoc} {n : Int} {x : Assoc × Int} (h : (a, n) = x) :
    AV.tup [.agg [.i a.fr, .i a.to, .i a.state, .bo a.byB, .i a.a.tag, .i a.a.streams, .i a.a.first, .r (.ro none (a.a.sent.map Data.row)), .i a.a.acked, .i a.b.tag, .i a.b.streams, .i a.b.first, .r (.ro none (a.b.sent.map Data.row)), .i a.b.acked], .i n] = resA x := by subst h; rfl
theorem s_l31Data0 (a : Assoc) (byB : Bool) (k : Chunk) (hs : k.body.length ≤ 1000000000) (hw : AW a) (hg : dataGet k = none) : Spec Try.prog 123 0 [] [a.ro, .bo byB, k.av] (fun r _ _ _ => r = resA (stepData a byB k)) := by
  have hS := s_l31Side a byB
  have hG := s_specDataGet k hs
  obtain ⟨⟨f0, f1⟩, hl, hd⟩ := hw.own byB
  unfold stepData
  obtain ⟨fr, to, st, bb, A, B⟩ := a
  refine mk123 rfl fun c hP hm => ?_
  unfold pc123
  unfold Assoc.ro Assoc.av at hS ⊢
  unfold Chunk.av at hG ⊢
  simp only [hm, go_sem, ↓reduceIte]
  refine call_data (hP ▸ hG) rfl rfl ?_
  rw [hg]
  simp only [Option.getD_none, Option.isSome_none, noData, Data.av, hm, go_sem, ↓reduceIte]
  refine call_data (hP ▸ hS) (by cases byB <;> rfl) rfl ?_
  generalize (Assoc.mk fr to st bb A B).own byB = o at f0 f1 hl hd
  generalize (Assoc.mk fr to st bb A B).other byB = o'
  clear hS hG hw
  cases byB <;> cases bb
  all_goals
    simp only [Side.ro, Side.av, hm, go_sem, ↓reduceIte]
    repeat' first
      | refine And.intro ?_ ?_
      | intro _
  all_goals first
    | omega
    | (refine resA_a (a := ⟨fr, to, st, _, A, B⟩) ?_
       try simp only [Bool.and_eq_true, Bool.or_eq_true, decide_eq_true_eq, Bool.not_eq_true', Bool.or_eq_false_iff, Bool.and_eq_false_iff, decide_eq_false_iff_not, Bool.and_true, Bool.and_false, Bool.or_false, Bool.false_or, Bool.not_true, Bool.not_false, Bool.true_and, Bool.false_and, bne_self_eq_false, Bool.false_bne, Bool.true_bne]
       repeat' split
       all_goals first
         | rfl
         | (exfalso; omega)
         | (exfalso; simp_all; done)
         | (exfalso; simp_all; omega))
end Go.Cap

/- Contracts: steps of an association (the reference's): parts that are read. -/
namespace Go.Cap
open Go Go.Proofs
set_option maxRecDepth 100000
set_option linter.unusedSimpArgs false
set_option linter.unusedVariables false
attribute [local irreducible] Call Run Spec Le

theorem resA_b {a : Assoc} {b : Bool} {n : Int} {x : Assoc × Int} (hb : a.byB = b) (h : (a, n) = x) :
    AV.tup [.agg [.i a.fr, .i a.to, .i a.state, .bo b, .i a.a.tag, .i a.a.streams, .i a.a.first, .r (.ro none (a.a.sent.map Data.row)), .i a.a.acked, .i a.b.tag, .i a.b.streams, .i a.b.first, .r (.ro none (a.b.sent.map Data.row)), .i a.b.acked], .i n] = resA x := by subst h; subst hb; rfl
set_option maxHeartbeats 2000000 in
theorem s_l31Data1 (a : Assoc) (byB : Bool) (k : Chunk) (d : Data) (hs : k.body.length ≤ 1000000000) (hw : AW a) (hg : dataGet k = some d) : Spec Try.prog 123 0 [] [a.ro, .bo byB, k.av] (fun r _ _ _ => r = resA (stepData a byB k)) := by
  have hS := s_l31Side a byB
  have hG := s_specDataGet k hs
  have hW := fun s => s_l31With a byB s
  obtain ⟨⟨f0, f1⟩, hl, hd⟩ := hw.own byB
  have hdb := dataGet_ok hg
  have ht := dataB_tsn hdb
  unfold stepData
  refine mk123 rfl fun c hP hm => ?_
  unfold pc123
  have hu : a.ro = .agg [.i a.fr, .i a.to, .i a.state, .bo a.byB, .i a.a.tag, .i a.a.streams, .i a.a.first, .r (.ro none (a.a.sent.map Data.row)), .i a.a.acked, .i a.b.tag, .i a.b.streams, .i a.b.first, .r (.ro none (a.b.sent.map Data.row)), .i a.b.acked] := rfl
  rw [hu] at hS hW ⊢
  unfold Chunk.av at hG ⊢
  simp only [hm, go_sem, ↓reduceIte]
  refine call_data (hP ▸ hG) rfl rfl ?_
  rw [hg]
  simp only [Option.getD_some, Option.isSome_some, Data.av, hm, go_sem, ↓reduceIte]
  refine call_data (hP ▸ hS) (by cases byB <;> rfl) rfl ?_
  have hn : IntKind.i64.wrap (0 - (a.own byB).first) = -(a.own byB).first := by rw [wrap64 (by omega) (by omega)]; omega
  have hK := l3_range d.tsn (-(a.own byB).first)
  generalize hoo : a.own byB = o at *
  generalize a.other byB = o' at *
  have hM := s_l31Follows o.sent d (by omega)
  unfold Data.av at hM
  have hA := s_l3Add d.tsn (-o.first) ht
  generalize l3 d.tsn (-o.first) = K at *
  generalize mayB o.sent d = mb at *
  simp only [Side.ro, Side.av, hn, hm, go_sem, ↓reduceIte]
  intro _
  refine call_pure (hP ▸ hA) rfl rfl ?_
  generalize hbb : a.byB = bb at *
  by_cases hk : K < o.sent.length
  · have hil : K.toNat < o.sent.length := by omega
    have hgt := getD_map (f := Data.row) hil
    have hgx : o.sent.getD K.toNat noData = o.sent[K.toNat] := by simp [List.getD_eq_getElem?_getD, hil]
    rw [hgx]
    generalize o.sent[K.toNat] = x at hgt
    have hq : (x.tsn == d.tsn && (x.stream == d.stream && (x.ssn == d.ssn && (x.first == d.first && (x.last == d.last && (x.loose == d.loose && x.text == d.text)))))) = eqData x d := rfl
    clear hS hG hW hM hA
    cases byB <;> cases bb
    all_goals
      simp only [hgt, Data.row, hk, hm, go_sem, ↓reduceIte]
      try simp only [hq, hm, go_sem, ↓reduceIte]
      repeat' first
        | refine And.intro ?_ ?_
        | intro _
    all_goals first
      | omega
      | (refine resA_b hbb ?_
         try simp only [Bool.and_eq_true, Bool.or_eq_true, decide_eq_true_eq, Bool.not_eq_true', Bool.or_eq_false_iff, Bool.and_eq_false_iff, decide_eq_false_iff_not, Bool.and_true, Bool.and_false, Bool.or_false, Bool.false_or, Bool.not_true, Bool.not_false, Bool.true_and, Bool.false_and, bne_self_eq_false, Bool.false_bne, Bool.true_bne]
         repeat' split
         all_goals first
           | rfl
           | (exfalso; omega)
           | (exfalso; simp_all; done)
           | (exfalso; simp_all [eqData]; done)
           | (exfalso; simp_all; omega))
  · have hnl : ((o.sent.map Data.row).length : Int) = o.sent.length := by simp
    clear hS hG
    have hrow : List.take o.sent.length (o.sent.map Data.row) ++ [[.n .i64 d.tsn, .n .i64 d.stream, .n .i64 d.ssn, .b d.first, .b d.last, .b d.loose, .s d.text]] = (o.sent ++ [d]).map Data.row := by
      rw [take_map_len, List.map_append]; rfl
    have htk : List.take (o.sent.length + 1) ((o.sent ++ [d]).map Data.row) = (o.sent ++ [d]).map Data.row := List.take_of_length_le (by simp)
    have hrows : rowsN 7 (o.sent.map Data.row) := fun r hr => by obtain ⟨d, _, rfl⟩ := List.mem_map.1 hr; rfl
    cases byB <;> cases bb
    all_goals
      simp only [hk, hm, go_sem, ↓reduceIte]
      repeat' first
        | refine And.intro ?_ ?_
        | intro _
        | (refine call_pure (hP ▸ hM) rfl rfl ?_; simp only [hrow, hm, go_sem, ↓reduceIte])
        | (refine call_frz 6 rfl rfl (by simp only [List.length_map, List.length_append, List.length_cons, List.length_nil, go_sem, ↓reduceIte]) ?_; simp only [htk, List.drop_zero, hm, go_sem, ↓reduceIte]; refine call_data (hP ▸ hW { o with sent := o.sent ++ [d] }) rfl rfl ?_; simp only [Assoc.ro, Assoc.av, hm, go_sem, ↓reduceIte])
        | (refine call_frz 7 rfl rfl (by simp only [List.length_map, List.length_append, List.length_cons, List.length_nil, go_sem, ↓reduceIte]) ?_; simp only [htk, List.drop_zero, hm, go_sem, ↓reduceIte]; refine call_data (hP ▸ hW { o with sent := o.sent ++ [d] }) rfl rfl ?_; simp only [Assoc.ro, Assoc.av, hm, go_sem, ↓reduceIte])
        | (refine call_frz 8 rfl rfl (by simp only [List.length_map, List.length_append, List.length_cons, List.length_nil, go_sem, ↓reduceIte]) ?_; simp only [htk, List.drop_zero, hm, go_sem, ↓reduceIte]; refine call_data (hP ▸ hW { o with sent := o.sent ++ [d] }) rfl rfl ?_; simp only [Assoc.ro, Assoc.av, hm, go_sem, ↓reduceIte])
        | (refine call_frz 5 rfl rfl (by simp only [List.length_map, List.length_append, List.length_cons, List.length_nil, go_sem, ↓reduceIte]) ?_; simp only [htk, List.drop_zero, hm, go_sem, ↓reduceIte]; refine call_data (hP ▸ hW { o with sent := o.sent ++ [d] }) rfl rfl ?_; simp only [Assoc.ro, Assoc.av, hm, go_sem, ↓reduceIte])
    all_goals first
      | omega
      | exact hrows
      | (rename_i r hr; exact hrows r hr)
      | (simp only [List.length_map]; omega)
      | (refine resA_b hbb ?_
         try simp only [Bool.and_eq_true, Bool.or_eq_true, decide_eq_true_eq, Bool.not_eq_true', Bool.or_eq_false_iff, Bool.and_eq_false_iff, decide_eq_false_iff_not, Bool.and_true, Bool.and_false, Bool.or_false, Bool.false_or, Bool.not_true, Bool.not_false, Bool.true_and, Bool.false_and, bne_self_eq_false, Bool.false_bne, Bool.true_bne]
         repeat' split
         all_goals first
           | rfl
           | (exfalso; omega)
           | (exfalso; simp_all; done)
           | (exfalso; simp_all [eqData]; done)
           | (exfalso; simp_all; omega))
      | (refine resA_a ?_
         try simp only [Bool.and_eq_true, Bool.or_eq_true, decide_eq_true_eq, Bool.not_eq_true', Bool.or_eq_false_iff, Bool.and_eq_false_iff, decide_eq_false_iff_not, Bool.and_true, Bool.and_false, Bool.or_false, Bool.false_or, Bool.not_true, Bool.not_false, Bool.true_and, Bool.false_and, bne_self_eq_false, Bool.false_bne, Bool.true_bne]
         repeat' split
         all_goals first
           | rfl
           | (exfalso; omega)
           | (exfalso; simp_all; done)
           | (exfalso; simp_all; omega))
theorem s_l31Data (a : Assoc) (byB : Bool) (k : Chunk) (hs : k.body.length ≤ 1000000000) (hw : AW a) : Spec Try.prog 123 0 [] [a.ro, .bo byB, k.av] (fun r _ _ _ => r = resA (stepData a byB k)) := by
  cases hg : dataGet k with
  | none => exact s_l31Data0 a byB k hs hw hg
  | some d => exact s_l31Data1 a byB k d hs hw hg
theorem s_l3Diff (a b : Int) (ha : 0 ≤ a ∧ a < 65536) (hb : 0 ≤ b ∧ b < 65536) : Spec Try.prog 130 0 [] [.i a, .i b] (fun r _ _ _ => r = .i (l3d a b)) := by
  refine mk130 rfl fun c hP hm => ?_
  unfold pc130
  have hn : IntKind.i64.wrap (0 - a) = -a := by rw [wrap64 (by omega) (by omega)]; omega
  have hK := l3_range b (-a)
  unfold l3d
  simp only [hn, hm, go_sem, ↓reduceIte]
  refine call_pure (hP ▸ s_l3Add b (-a) hb) rfl rfl ?_
  generalize l3 b (-a) = K at *
  have hw : IntKind.i64.wrap (K - 65536) = K - 65536 := wrap64 (by omega) (by omega)
  simp only [hw, hm, go_sem, ↓reduceIte]
  repeat' first
    | refine And.intro ?_ ?_
    | intro _
  all_goals first
    | omega
    | (rw [if_pos (by omega)])
    | (rw [if_neg (by omega)])
def noSack : Sack := ⟨0, []⟩
end Go.Cap

/- Contracts: the reference reads receipts, and takes them. -/
namespace Go.Cap
open Go Go.Proofs
set_option maxRecDepth 100000
set_option linter.unusedSimpArgs false
set_option linter.unusedVariables false
attribute [local irreducible] Call Run Spec Le

theorem gapsOf_range : ∀ l : List UInt8, gapsOf l = (List.range (l.length / 4)).map fun i => (⟨at2 l (4 * i), at2 l (4 * i + 2)⟩ : Gap)
  | a :: b :: c :: d :: l => by
    rw [gapsOf, gapsOf_range l]
    have e : (a :: b :: c :: d :: l).length / 4 = l.length / 4 + 1 := by simp only [List.length_cons]; omega
    rw [e, List.range_succ_eq_map, List.map_cons, List.map_map]
    refine congr (congrArg List.cons rfl) ?_
    refine List.map_congr_left fun i _ => ?_
    show (⟨at2 l (4 * i), at2 l (4 * i + 2)⟩ : Gap) = ⟨at2 (a :: b :: c :: d :: l) (4 * (i + 1)), at2 (a :: b :: c :: d :: l) (4 * (i + 1) + 2)⟩
    have e1 : 4 * (i + 1) = 4 * i + 1 + 1 + 1 + 1 := by omega
    have e2 : 4 * (i + 1) + 2 = (4 * i + 2) + 1 + 1 + 1 + 1 := by omega
    rw [e2, e1]
    unfold at2
    have e3 : 4 * i + 1 + 1 + 1 + 1 + 1 = (4 * i + 1) + 1 + 1 + 1 + 1 := by omega
    have e4 : 4 * i + 2 + 1 + 1 + 1 + 1 + 1 = (4 * i + 2 + 1) + 1 + 1 + 1 + 1 := by omega
    rw [e3, e4]
    simp only [List.getD_cons_succ]
  | [] => by simp [gapsOf]
  | [_] => by simp [gapsOf]
  | [_, _] => by simp [gapsOf]
  | [_, _, _] => by simp [gapsOf]
theorem at2_drop (s : List UInt8) (k i : Nat) : at2 (s.drop k) i = at2 s (k + i) := by
  unfold at2
  simp only [List.getD_eq_getElem?_getD, List.getElem?_drop, Nat.add_assoc]
def gapAt (s : List UInt8) (i : Nat) : Gap := ⟨at2 s (2 + 4 * i), at2 s (2 + 4 * i + 2)⟩
theorem gapsOf_body (s : List UInt8) : gapsOf (s.drop 2) = (List.range ((s.length - 2) / 4)).map (gapAt s) := by
  rw [gapsOf_range, List.length_drop]
  refine List.map_congr_left fun i _ => ?_
  simp only [gapAt, at2_drop, Nat.add_assoc]
theorem range_map_take {α : Type} (f : Nat → α) {n i : Nat} (h : i < n) : ((List.range n).map f).take (i + 1) = ((List.range n).map f).take i ++ [f i] := by
  rw [List.take_add_one]
  simp [h]
/-- What SackGet gives: the zero value, or a receipt with a block of its own. -/
theorem s_specSackGet0 (k : Chunk) (hs : k.body.length ≤ 1000000) : Spec Try.prog 129 0 [] [k.av] (fun r hp _ _ => (sackGet k = none ∧ r = .tup [.agg [.i 0, .r .nil], .bo false]) ∨ ∃ x b, sackGet k = some x ∧ r = .tup [.agg [.i x.cum, .sl b 0 x.gaps.length], .bo true] ∧ hget hp b = some (.row 2 (x.gaps.map Gap.row))) := by
  have hnone : (k.kind = 3 → k.flags = 0 → k.body.length % 4 = 2 → sackB (sackOf k) = true → False) → sackGet k = none := fun h => by
    unfold sackGet
    rw [if_neg]
    simp only [Bool.and_eq_true, decide_eq_true_eq]
    rintro ⟨⟨⟨h1, h2⟩, h3⟩, h4⟩
    exact h h1 h2 h3 h4
  have hsome : k.kind = 3 → k.flags = 0 → k.body.length % 4 = 2 → sackB (sackOf k) = true → sackGet k = some (sackOf k) := fun h1 h2 h3 h4 => by
    unfold sackGet
    rw [if_pos]
    simp only [Bool.and_eq_true, decide_eq_true_eq]
    exact ⟨⟨⟨h1, h2⟩, h3⟩, h4⟩
  refine mr129 rfl fun c hP hm => ?_
  unfold pc129 Chunk.av
  refine run_seq (run_wpc _ _ _ _ _ ?_)
  simp only [hm, go_sem, ↓reduceIte]
  refine run_seq (run_wpc _ _ _ _ _ ?_)
  simp only [hm, go_sem, ↓reduceIte]
  rw [tmod_nn (by omega)]
  repeat' first | refine And.intro ?_ ?_ | intro _
  all_goals first
    | (left; refine hnone fun h1 h2 h3 h4 => ?_; omega)
    | (left; refine ⟨hnone fun h1 h2 h3 h4 => ?_, rfl⟩; omega)
    | skip
  rename_i hk hf hmod
  refine run_seq (run_wpc _ _ _ _ _ ?_)
  simp only [hm, go_sem, ↓reduceIte]
  refine c_l1At hP (by omega) (by omega) ?_
  simp only [hm, go_sem, ↓reduceIte]
  refine run_seq (run_wpc _ _ _ _ _ ?_)
  simp only [hm, go_sem, ↓reduceIte]
  have hgs : (sackOf k).gaps = (List.range ((k.body.length - 2) / 4)).map (gapAt k.body) := gapsOf_body k.body
  have hlen : (sackOf k).gaps.length = (k.body.length - 2) / 4 := by rw [hgs]; simp
  have hcum : (sackOf k).cum = at2 k.body 0 := rfl
  have hnn : (k.body.length - 2) / 4 * 4 + 2 = k.body.length := by omega
  generalize hn : (k.body.length - 2) / 4 = n at hlen hgs hnn
  refine run_exit 0 (fun t0 => t0 = ⟨[(2, .ptr 1 0 0), (4, .ptr 3 0 0)], [(1, .var [.i 0, .r .nil]), (3, .var [.i (at2 k.body 0), .sl 2 0 n]), (2, .row 2 ((sackOf k).gaps.map Gap.row))], 4, []⟩) ?_ ?_
  · refine lp_wpc (α := Nat) (fun i => ⟨[(1, .ptr 0 0 0), (2, .ptr 1 0 0), (4, .ptr 3 0 0), (5, .i (2 + 4 * (i : Int)))], [(0, .var [.i k.kind, .i k.flags, .st k.body]), (1, .var [.i 0, .r .nil]), (3, .var [.i (at2 k.body 0), .sl 2 0 i]), (2, .row 2 (((sackOf k).gaps.take i).map Gap.row))], 4, []⟩)
      (fun i => i ≤ n) (fun i => n - i) 0 (Nat.zero_le _) (by rw [List.take_zero]; simp only [List.map_nil]; (refine le_ev [] ?_; simp only [hm, go_sem, ↓reduceIte]; first | done | rfl | exact ⟨rfl, rfl⟩)) ?_
    intro i hi
    unfold pc129l0
    rcases Nat.lt_or_ge i n with hil | hil
    · have htk := range_map_take (gapAt k.body) hil
      rw [← hgs] at htk
      have hl : ((sackOf k).gaps.take i).length = i := by rw [List.length_take]; omega
      generalize (sackOf k).gaps.take i = gs at htk hl
      have hrt : List.take i (gs.map Gap.row) = gs.map Gap.row := List.take_of_length_le (by simp; omega)
      have hw4 : IntKind.i64.wrap (2 + 4 * (i : Int) + 4) = 2 + 4 * ((i + 1 : Nat) : Int) := by rw [wrap64 (by omega) (by omega)]; omega
      have hw2 : IntKind.i64.wrap (2 + 4 * (i : Int) + 2) = 2 + 4 * (i : Int) + 2 := wrap64 (by omega) (by omega)
      have e1 : (2 + 4 * (i : Int)).toNat = 2 + 4 * i := by omega
      have e2 : (2 + 4 * (i : Int) + 2).toNat = 2 + 4 * i + 2 := by omega
      simp only [hw4, hw2, hrt, hm, go_sem, ↓reduceIte]
      repeat' first
        | refine And.intro ?_ ?_
        | intro _
        | (refine c_l1At hP (by omega) (by omega) ?_; simp only [hw4, hw2, hrt, e1, e2, hm, go_sem, ↓reduceIte])
      all_goals first
        | omega
        | (simp only [List.length_map]; omega)
        | (refine ⟨i + 1, hil, by omega, ?_⟩
           rw [htk]
           simp only [List.map_append, List.map_cons, List.map_nil, Gap.row, gapAt]
           (refine le_ev [] ?_; simp only [hm, go_sem, ↓reduceIte]; first | done | rfl | exact ⟨rfl, rfl⟩))
    · have : i = n := by omega
      subst this
      have htl : (sackOf k).gaps.take i = (sackOf k).gaps := by rw [← hlen, List.take_length]
      rw [htl]
      simp only [hm, go_sem, ↓reduceIte]
      repeat' first | refine And.intro ?_ ?_ | intro _
      all_goals first
        | omega
        | (refine ⟨_, rfl, ?_⟩; (refine le_ev [] ?_; simp only [hm, go_sem, ↓reduceIte]; first | done | rfl | exact ⟨rfl, rfl⟩))
  rintro t0 rfl
  have hcs := s_l12Sack (sackOf k) (by omega)
  unfold Sack.ro at hcs
  rw [← hcum, ← hlen]
  generalize hso : sackOf k = so at *
  refine run_wpc _ _ _ _ _ ?_
  simp only [hm, go_sem, ↓reduceIte]
  refine call_flat (hP ▸ hcs) rfl (.cons (vw_agg (.cons (vw_self _ _ rfl) (.cons (Vw.full rfl (by simp)) .nil))) .nil) ?_
  simp only [hm, go_sem, ↓reduceIte]
  repeat' first | refine And.intro ?_ ?_ | intro _
  all_goals first
    | omega
    | (rename_i hb; left; refine ⟨hnone fun h1 h2 h3 h4 => ?_, rfl⟩; rw [hb] at h4; cases h4)
    | (rename_i hb; left; refine hnone fun h1 h2 h3 h4 => ?_; rw [hb] at h4; cases h4)
    | (rename_i hb; right; exact ⟨so, 2, hsome (by omega) (by omega) (by omega) hb, rfl, rfl⟩)
theorem s_specSackGet (k : Chunk) (hs : k.body.length ≤ 1000000) : Spec Try.prog 129 0 [] [k.av] (Plain fun r => r = .tup [((sackGet k).getD noSack).ro, .bo (sackGet k).isSome]) := by
  refine Spec.le (s_specSackGet0 k hs) fun r hp nx gs h => ⟨_, [], 0, [], ⟨rfl, rfl, rfl, rfl⟩, fun c hc => ?_⟩
  rcases h with ⟨h, rfl⟩ | ⟨x, b, h, rfl, hb⟩
  · rw [h]
    refine Le.trans (t := ⟨[(0, .tup [.agg [.i 0, .r .nil], .bo false])], [], 0, []⟩) (le_ev [] (by simp only [hc, go_sem, ↓reduceIte])) le_denil
  · rw [h]
    refine Le.trans (t := ⟨[(0, .tup [.agg [.i x.cum, .sl 0 0 x.gaps.length], .bo true])], [(0, .row 2 (x.gaps.map Gap.row))], 1, []⟩) (le_ev [(0, b)] (by simp only [hc, go_sem, ↓reduceIte, hb])) ?_
    refine Le.trans (le_frz 0 rfl (by simp only [List.length_map, go_sem, ↓reduceIte]) (by simp only [go_sem, ↓reduceIte])) ?_
    simp only [take_map_len, List.drop_zero, go_sem, ↓reduceIte]
    exact le_ev [] (by simp only [hc, Option.getD_some, Option.isSome_some, Sack.ro, go_sem, ↓reduceIte])
theorem lastTo_eq {l : List Gap} (h : 0 < l.length) : lastTo l = (l[l.length - 1]'(by omega)).to := by
  unfold lastTo
  rw [List.getLast?_eq_getElem?, List.getElem?_eq_getElem (by omega)]
theorem gapsB_to : ∀ {l : List Gap} {last : Int}, 0 ≤ last → gapsB last l = true → ∀ g ∈ l, 0 ≤ g.to ∧ g.to ≤ 16
  | [], _, _, _, g, hg => by cases hg
  | x :: l, last, h0, h, g, hg => by
    simp only [gapsB, Bool.and_eq_true, decide_eq_true_eq] at h
    rcases List.mem_cons.1 hg with rfl | hg
    · omega
    · exact gapsB_to (l := l) (last := x.to) (by omega) h.2 g hg
end Go.Cap

/- Contracts: the reference takes receipts. -/
namespace Go.Cap
open Go Go.Proofs
set_option maxRecDepth 100000
set_option linter.unusedSimpArgs false
set_option linter.unusedVariables false
attribute [local irreducible] Call Run Spec Le

theorem s_l31Sack (a : Assoc) (byB : Bool) (k : Chunk) (hs : k.body.length ≤ 1000000) (hw : AW a) : Spec Try.prog 124 0 [] [a.ro, .bo byB, k.av] (fun r _ _ _ => r = resA (stepSack a byB k)) := by
  have hS := s_l31Side a byB
  have hG := s_specSackGet k hs
  have hW := fun s => s_l31With a (!byB) s
  obtain ⟨⟨f0, f1⟩, hl, hd⟩ := hw.other byB
  refine mr124 rfl fun c hP hm => ?_
  unfold pc124
  have hu : a.ro = .agg [.i a.fr, .i a.to, .i a.state, .bo a.byB, .i a.a.tag, .i a.a.streams, .i a.a.first, .r (.ro none (a.a.sent.map Data.row)), .i a.a.acked, .i a.b.tag, .i a.b.streams, .i a.b.first, .r (.ro none (a.b.sent.map Data.row)), .i a.b.acked] := rfl
  rw [hu] at hS hW ⊢
  unfold Chunk.av at hG ⊢
  unfold stepSack
  refine run_seq (run_wpc _ _ _ _ _ ?_)
  simp only [hm, go_sem, ↓reduceIte]
  refine run_seq (run_wpc _ _ _ _ _ ?_)
  simp only [hm, go_sem, ↓reduceIte]
  refine call_dataP (hP ▸ hG) (by cases sackGet k <;> rfl) rfl ?_
  cases hg : sackGet k with
  | none =>
    simp only [Option.getD_none, Option.isSome_none, noSack, Sack.ro, List.map_nil, hm, go_sem, ↓reduceIte]
    refine run_seq (run_wpc _ _ _ _ _ ?_)
    simp only [hm, go_sem, ↓reduceIte]
    refine call_data (hP ▸ hS) (by cases byB <;> rfl) rfl ?_
    generalize a.own byB = o'
    generalize a.other byB = o at f0 f1 hl hd
    simp only [Side.ro, Side.av, hm, go_sem, ↓reduceIte]
    refine run_wpc _ _ _ _ _ ?_
    simp only [inB_dec, hm, go_sem, ↓reduceIte]
    repeat' first
      | refine And.intro ?_ ?_
      | intro _
      | (refine c_l6In hP ?_; simp only [inB_dec, hm, go_sem, ↓reduceIte])
    all_goals first
      | omega
      | (refine resA_a ?_
         try simp only [inB_dec, Bool.and_eq_true, Bool.or_eq_true, decide_eq_true_eq, Bool.not_eq_true', Bool.or_eq_false_iff, Bool.and_eq_false_iff, decide_eq_false_iff_not, Bool.and_true, Bool.and_false, Bool.or_false, Bool.false_or, Bool.not_true, Bool.not_false, Bool.true_and, Bool.false_and, bne_self_eq_false, Bool.false_bne, Bool.true_bne]
         repeat' split
         all_goals first
           | rfl
           | (exfalso; omega)
           | (exfalso; simp_all; done)
           | (exfalso; simp_all; omega)
           | (simp only [Int.max_def]; split <;> first | rfl | (exfalso; omega) | (congr 3; omega)))

  | some x =>
    have hx := sackGet_ok hg
    simp only [sackB, serialB, Bool.and_eq_true, decide_eq_true_eq] at hx
    have hto := gapsB_to (by decide) hx.2
    simp only [Option.getD_some, Option.isSome_some, Sack.ro, hm, go_sem, ↓reduceIte]
    refine run_seq (run_wpc _ _ _ _ _ ?_)
    simp only [hm, go_sem, ↓reduceIte]
    refine call_data (hP ▸ hS) (by cases byB <;> rfl) rfl ?_
    generalize a.own byB = o'
    generalize hoo : a.other byB = o at *
    have hr := l3_range o.first (-1)
    have hA := s_l3Add o.first (-1) ⟨f0, f1⟩
    have hD := s_l3Diff (l3 o.first (-1)) x.cum hr (by omega)
    have hE : -32768 ≤ l3d (l3 o.first (-1)) x.cum ∧ l3d (l3 o.first (-1)) x.cum ≤ 32768 := by
      have := l3_range x.cum (-(l3 o.first (-1)))
      unfold l3d; split <;> omega
    generalize l3d (l3 o.first (-1)) x.cum = e at *
    simp only [Side.ro, Side.av, hm, go_sem, ↓reduceIte]
    refine run_seq (run_wpc _ _ _ _ _ ?_)
    simp only [inB_dec, hm, go_sem, ↓reduceIte]
    refine c_l6In hP ?_
    simp only [inB_dec, hm, go_sem, ↓reduceIte]
    refine ⟨fun hst => ?_, fun hst => ?_⟩
    · have hstp : ¬ (4 ≤ a.state ∧ a.state ≤ 5) := by first | exact hst | omega
      refine resA_a ?_
      rw [if_pos (by simp [inB_dec]; omega)]
    refine run_seq (run_wpc _ _ _ _ _ ?_)
    simp only [hm, go_sem, ↓reduceIte]
    refine call_pure (hP ▸ hA) rfl rfl ?_
    simp only [hm, go_sem, ↓reduceIte]
    refine call_pure (hP ▸ hD) rfl rfl ?_
    simp only [hm, go_sem, ↓reduceIte]
    rw [if_neg (by omega)]
    have hst' : ¬ ¬ (4 ≤ a.state ∧ a.state ≤ 5) := by first | exact hst | omega
    clear hA hD hG hS hd hg
    refine run_seq (run_wpc _ _ _ _ _ ?_)
    simp only [hm, go_sem, ↓reduceIte]
    refine run_join (fun t => t = ⟨[(1, .bo byB), (3, .ptr 0 0 0), (6, .ptr 2 0 0), (11, .ptr 5 0 0), (12, .i e), (13, .i (e + lastTo x.gaps))], [(5, .var [.i o.tag, .i o.streams, .i o.first, .r (.ro none (o.sent.map Data.row)), .i o.acked]), (2, .var [.i 0, .i 0, .i 0, .bo false, .i 0, .i 0, .i 0, .r .nil, .i 0, .i 0, .i 0, .i 0, .r .nil, .i 0]), (0, .var [.i a.fr, .i a.to, .i a.state, .bo a.byB, .i a.a.tag, .i a.a.streams, .i a.a.first, .r (.ro none (a.a.sent.map Data.row)), .i a.a.acked, .i a.b.tag, .i a.b.streams, .i a.b.first, .r (.ro none (a.b.sent.map Data.row)), .i a.b.acked])], 6, []⟩) (run_wpc _ _ _ _ _ ?_) ?_
    · rcases Nat.eq_zero_or_pos x.gaps.length with h0 | h0
      · have hgn : x.gaps = [] := List.length_eq_zero_iff.1 h0
        have hlt : lastTo x.gaps = 0 := by rw [hgn]; rfl
        rw [hlt, hgn]
        simp only [List.map_nil, List.length_nil, hm, go_sem, ↓reduceIte]
        repeat' first | refine And.intro ?_ ?_ | intro _
        all_goals first
          | omega
          | (refine ⟨_, rfl, ?_⟩; rw [Int.add_zero]; (refine le_ev [] ?_; simp only [hm, go_sem, ↓reduceIte]; first | done | rfl | exact ⟨rfl, rfl⟩))
      · have hil : x.gaps.length - 1 < x.gaps.length := by omega
        have hgt := getD_map (f := Gap.row) hil
        have hwl : IntKind.i64.wrap ((x.gaps.length : Int) - 1) = ((x.gaps.length - 1 : Nat) : Int) := by rw [wrap64 (by omega) (by omega)]; omega
        have hlt := lastTo_eq h0
        have hmem := hto _ (List.getElem_mem hil)
        generalize x.gaps[x.gaps.length - 1] = g at *
        rw [hlt]
        have hwe : IntKind.i64.wrap (e + g.to) = e + g.to := wrap64 (by omega) (by omega)
        simp only [hwl, hwe, hgt, Int.toNat_natCast, List.length_map, Gap.row, hm, go_sem, ↓reduceIte]
        repeat' first | refine And.intro ?_ ?_ | intro _
        all_goals first
          | omega
          | (refine ⟨_, rfl, ?_⟩; (refine le_ev [] ?_; simp only [hm, go_sem, ↓reduceIte]; first | done | rfl | exact ⟨rfl, rfl⟩))
    rintro t rfl
    generalize e + lastTo x.gaps = mo
    have hmx : (if e > o.acked then e else o.acked) = max o.acked e := by rw [Int.max_def]; split <;> split <;> omega
    refine run_wpc _ _ _ _ _ ?_
    cases byB
    all_goals
      simp only [Bool.not_true, Bool.not_false] at hW
      simp only [hmx, inB_dec, hm, go_sem, ↓reduceIte]
      repeat' first
        | refine And.intro ?_ ?_
        | intro _
        | (refine c_l6In hP ?_; simp only [hmx, inB_dec, hm, go_sem, ↓reduceIte])
        | (refine call_data (hP ▸ hW { o with acked := max o.acked e }) rfl rfl ?_; simp only [Assoc.ro, Assoc.av, hm, go_sem, ↓reduceIte])
    all_goals first
      | omega
      | (refine resA_a ?_
         try simp only [inB_dec, Bool.and_eq_true, Bool.or_eq_true, decide_eq_true_eq, Bool.not_eq_true', Bool.or_eq_false_iff, Bool.and_eq_false_iff, decide_eq_false_iff_not, Bool.and_true, Bool.and_false, Bool.or_false, Bool.false_or, Bool.not_true, Bool.not_false, Bool.true_and, Bool.false_and, bne_self_eq_false, Bool.false_bne, Bool.true_bne]
         repeat' split
         all_goals first
           | rfl
           | (exfalso; omega)
           | (exfalso; simp_all; done)
           | (exfalso; simp_all; omega))
end Go.Cap

/- Contracts: a chunk, the tag, a packet alone, and the step of an association (the reference's). -/
namespace Go.Cap
open Go Go.Proofs
set_option maxRecDepth 100000
set_option linter.unusedSimpArgs false
set_option linter.unusedVariables false
attribute [local irreducible] Call Run Spec Le

theorem s_l31Chunk (a : Assoc) (byB : Bool) (k : Chunk) (hs : k.body.length ≤ 1000000) (hw : AW a) : Spec Try.prog 120 0 [] [a.ro, .bo byB, k.av] (fun r _ _ _ => r = resA (stepChunk a byB k)) := by
  have h1 := s_l31Init a byB k (by omega)
  have h2 := s_l31Data a byB k (by omega) hw
  have h3 := s_l31Sack a byB k hs hw
  have h4 := s_l31End a byB k.kind
  have h5 := s_l31Cookie a byB k.kind
  refine mk120 rfl fun c hP hm => ?_
  unfold pc120
  unfold Chunk.av at h1 h2 h3 ⊢
  have hu : a.ro = .agg [.i a.fr, .i a.to, .i a.state, .bo a.byB, .i a.a.tag, .i a.a.streams, .i a.a.first, .r (.ro none (a.a.sent.map Data.row)), .i a.a.acked, .i a.b.tag, .i a.b.streams, .i a.b.first, .r (.ro none (a.b.sent.map Data.row)), .i a.b.acked] := rfl
  rw [hu] at h1 h2 h3 h4 h5 ⊢
  unfold stepChunk
  generalize stepInit a byB k = r1 at h1
  generalize stepData a byB k = r2 at h2
  generalize stepSack a byB k = r3 at h3
  generalize stepEnd a byB k.kind = r4 at h4
  generalize stepRest a byB k.kind = r5 at h5
  unfold resA Assoc.ro Assoc.av at h1 h2 h3 h4 h5
  simp only [hm, go_sem, ↓reduceIte]
  repeat' first
    | refine And.intro ?_ ?_
    | intro _
    | (refine call_data (hP ▸ h1) rfl rfl ?_; simp only [hm, go_sem, ↓reduceIte])
    | (refine call_data (hP ▸ h2) rfl rfl ?_; simp only [hm, go_sem, ↓reduceIte])
    | (refine call_data (hP ▸ h3) rfl rfl ?_; simp only [hm, go_sem, ↓reduceIte])
    | (refine call_data (hP ▸ h4 (by omega)) rfl rfl ?_; simp only [hm, go_sem, ↓reduceIte])
    | (refine call_data (hP ▸ h5) rfl rfl ?_; simp only [hm, go_sem, ↓reduceIte])
  all_goals first
    | omega
    | (refine resA_a ?_
       repeat' split
       all_goals first
         | rfl
         | (exfalso; omega))
theorem s_l31Tag (a : Assoc) (byB : Bool) (p : Packet) (hl : p.chunks.length ≤ 1000000) : Spec Try.prog 119 0 [] [a.ro, .bo byB, p.ro] (fun r _ _ _ => r = .i (tagOf a byB p)) := by
  have hS := s_l31Side a byB
  unfold tagOf
  refine mr119 rfl fun c hP hm => ?_
  unfold pc119
  unfold Assoc.ro Assoc.av at hS ⊢
  unfold Packet.ro
  refine run_seq (run_wpc _ _ _ _ _ ?_)
  simp only [hm, go_sem, ↓reduceIte]
  refine run_seq (run_wpc _ _ _ _ _ ?_)
  simp only [hm, go_sem, ↓reduceIte]
  refine run_exit 0 (fun t0 => t0 = ⟨[(1, .bo byB), (3, .ptr 0 0 0)], [(0, .var [.i a.fr, .i a.to, .i a.state, .bo a.byB, .i a.a.tag, .i a.a.streams, .i a.a.first, .r (.ro none (a.a.sent.map Data.row)), .i a.a.acked, .i a.b.tag, .i a.b.streams, .i a.b.first, .r (.ro none (a.b.sent.map Data.row)), .i a.b.acked])], 1, []⟩ ∧ p.chunks.any (fun c => decide (c.kind = 1)) = false) ?_ ?_
  · refine lp_wpc (α := Nat) (fun i => ⟨[(1, .bo byB), (3, .ptr 0 0 0), (5, .ptr 1 0 0), (7, .i i)], [(0, .var [.i a.fr, .i a.to, .i a.state, .bo a.byB, .i a.a.tag, .i a.a.streams, .i a.a.first, .r (.ro none (a.a.sent.map Data.row)), .i a.a.acked, .i a.b.tag, .i a.b.streams, .i a.b.first, .r (.ro none (a.b.sent.map Data.row)), .i a.b.acked]), (1, .var [.i p.fr, .i p.to, .i p.tag, .r (.ro none (p.chunks.map Chunk.row))])], 2, []⟩)
      (fun i => i ≤ p.chunks.length ∧ ∀ c ∈ p.chunks.take i, c.kind ≠ 1) (fun i => p.chunks.length - i) 0 ⟨Nat.zero_le _, fun c hc => by simp at hc⟩ (by (refine le_ev [] ?_; simp only [hm, go_sem, ↓reduceIte]; first | done | rfl | exact ⟨rfl, rfl⟩)) ?_
    rintro i ⟨hi, hI⟩
    unfold pc119l0
    rcases Nat.lt_or_ge i p.chunks.length with hil | hil
    · have hw : IntKind.i64.wrap ((i : Int) + 1) = ((i + 1 : Nat) : Int) := by rw [wrap64 (by omega) (by omega)]; omega
      have hg := getD_map (f := Chunk.row) hil
      have htk := take_get hil
      have hmem := List.getElem_mem hil
      generalize p.chunks[i] = x at hg htk hmem
      simp only [hw, Int.toNat_natCast, hg, Chunk.row, hm, go_sem, ↓reduceIte]
      repeat' first | refine And.intro ?_ ?_ | intro _
      all_goals first
        | omega
        | rfl
        | (rename_i hk; rw [if_pos (List.any_eq_true.2 ⟨x, hmem, by simp [hk]⟩)])
        | (rename_i hk
           refine ⟨i + 1, ⟨hil, fun y hy => ?_⟩, by omega, ?_⟩
           · rw [htk] at hy
             rcases List.mem_append.1 hy with hy | hy
             · exact hI y hy
             · simp only [List.mem_singleton] at hy; subst hy; exact hk
           · (refine le_ev [] ?_; simp only [hm, go_sem, ↓reduceIte]; first | done | rfl | exact ⟨rfl, rfl⟩))
    · have : i = p.chunks.length := by omega
      subst this
      rw [List.take_length] at hI
      have hall : p.chunks.any (fun c => decide (c.kind = 1)) = false := by
        rw [Bool.eq_false_iff]
        intro h
        obtain ⟨x, hx, hk⟩ := List.any_eq_true.1 h
        exact hI x hx (by simpa using hk)
      simp only [hm, go_sem, ↓reduceIte]
      repeat' first | refine And.intro ?_ ?_ | intro _
      all_goals first
        | omega
        | (refine ⟨_, ⟨rfl, hall⟩, ?_⟩; (refine le_ev [] ?_; simp only [hm, go_sem, ↓reduceIte]; first | done | rfl | exact ⟨rfl, rfl⟩))
  rintro t0 ⟨rfl, hA⟩
  rw [hA]
  refine run_wpc _ _ _ _ _ ?_
  simp only [hm, go_sem, ↓reduceIte]
  refine call_data (hP ▸ hS) (by cases byB <;> rfl) rfl ?_
  generalize a.own byB = o'
  generalize a.other byB = o
  simp only [Side.ro, Side.av, Bool.false_eq_true, if_false, hm, go_sem, ↓reduceIte]
theorem s_l13Alone (k : Int) : Spec Try.prog 109 0 [] [.i k] (fun r _ _ _ => r = .bo (aloneK k)) := by
  refine mk109 rfl fun c hP hm => ?_
  unfold pc109
  simp only [hm, go_sem, ↓reduceIte]
  repeat' first | refine And.intro ?_ ?_ | intro _
  all_goals (apply bo_inj; simp [aloneK, beq_dec, *])
theorem s_specPacketAlone (p : Packet) (hl : p.chunks.length ≤ 1000000) : Spec Try.prog 92 0 [] [p.ro] (fun r _ _ _ => r = .bo (aloneB p)) := by
  refine mr92 rfl fun c hP hm => ?_
  unfold pc92 Packet.ro
  refine run_seq (run_wpc _ _ _ _ _ ?_)
  simp only [hm, go_sem, ↓reduceIte]
  refine run_seq (run_wpc _ _ _ _ _ ?_)
  simp only [hm, go_sem, ↓reduceIte]
  refine run_exit 0 (fun t0 => t0 = ⟨[(1, .ptr 0 0 0)], [(0, .var [.i p.fr, .i p.to, .i p.tag, .r (.ro none (p.chunks.map Chunk.row))])], 1, []⟩ ∧ ∀ c ∈ p.chunks, aloneK c.kind = true → p.chunks.length ≤ 1) ?_ ?_
  · refine lp_wpc (α := Nat) (fun i => ⟨[(1, .ptr 0 0 0), (3, .i i)], [(0, .var [.i p.fr, .i p.to, .i p.tag, .r (.ro none (p.chunks.map Chunk.row))])], 1, []⟩)
      (fun i => i ≤ p.chunks.length ∧ ∀ c ∈ p.chunks.take i, aloneK c.kind = true → p.chunks.length ≤ 1) (fun i => p.chunks.length - i) 0 ⟨Nat.zero_le _, fun c hc => by simp at hc⟩ (by (refine le_ev [] ?_; simp only [hm, go_sem, ↓reduceIte]; first | done | rfl | exact ⟨rfl, rfl⟩)) ?_
    rintro i ⟨hi, hI⟩
    unfold pc92l0
    rcases Nat.lt_or_ge i p.chunks.length with hil | hil
    · have hw : IntKind.i64.wrap ((i : Int) + 1) = ((i + 1 : Nat) : Int) := by rw [wrap64 (by omega) (by omega)]; omega
      have hg := getD_map (f := Chunk.row) hil
      have htk := take_get hil
      have hmem := List.getElem_mem hil
      generalize p.chunks[i] = x at hg htk hmem
      have hbad : aloneK x.kind = true → 1 < p.chunks.length → AV.r (RV.b false) = AV.bo (aloneB p) := fun h1 h2 => by
        apply bo_inj; symm; rw [Bool.eq_false_iff]; intro hh
        simp only [aloneB, Bool.and_eq_true, Bool.or_eq_true, decide_eq_true_eq, List.all_eq_true] at hh
        rcases hh.2 with h | h
        · omega
        · have := h x hmem; rw [h1] at this; cases this
      have hstep : (aloneK x.kind = true → p.chunks.length ≤ 1) → ∀ c ∈ p.chunks.take (i + 1), aloneK c.kind = true → p.chunks.length ≤ 1 := fun h c hc => by
        rw [htk] at hc
        rcases List.mem_append.1 hc with hc | hc
        · exact hI c hc
        · simp only [List.mem_singleton] at hc; subst hc; exact h
      simp only [hw, Int.toNat_natCast, hg, Chunk.row, hm, go_sem, ↓reduceIte]
      repeat' first | refine And.intro ?_ ?_ | intro _ | (refine call_pure (hP ▸ s_l13Alone x.kind) rfl rfl ?_; simp only [hw, Int.toNat_natCast, hg, Chunk.row, hm, go_sem, ↓reduceIte])
      all_goals first
        | omega
        | rfl
        | exact hbad (by assumption) (by omega)
        | (refine ⟨i + 1, ⟨hil, hstep fun h => by omega⟩, by omega, ?_⟩; (refine le_ev [] ?_; simp only [hm, go_sem, ↓reduceIte]; first | done | rfl | exact ⟨rfl, rfl⟩))
        | (rename_i hk; refine ⟨i + 1, ⟨hil, hstep fun h => by rw [hk] at h; cases h⟩, by omega, ?_⟩; (refine le_ev [] ?_; simp only [hm, go_sem, ↓reduceIte]; first | done | rfl | exact ⟨rfl, rfl⟩))
    · have : i = p.chunks.length := by omega
      subst this
      rw [List.take_length] at hI
      simp only [hm, go_sem, ↓reduceIte]
      repeat' first | refine And.intro ?_ ?_ | intro _
      all_goals first
        | omega
        | (refine ⟨_, ⟨rfl, hI⟩, ?_⟩; (refine le_ev [] ?_; simp only [hm, go_sem, ↓reduceIte]; first | done | rfl | exact ⟨rfl, rfl⟩))
  rintro t0 ⟨rfl, hG⟩
  have hal : aloneB p = packB p := by
    unfold aloneB
    cases hb : packB p
    · rfl
    · rw [Bool.true_and, Bool.or_eq_true, decide_eq_true_eq, List.all_eq_true]
      have hn : 1 ≤ p.chunks.length := by
        simp only [packB, Bool.and_eq_true, decide_eq_true_eq] at hb; omega
      by_cases h : p.chunks.length = 1
      · exact .inl h
      · right
        intro x hx
        cases hk : aloneK x.kind
        · rfl
        · have := hG x hx hk; omega
  have hpv := s_specPacketValid p hl
  unfold Packet.ro at hpv
  rw [hal]
  refine run_wpc _ _ _ _ _ ?_
  simp only [hm, go_sem, ↓reduceIte]
  refine call_pure (hP ▸ hpv) rfl rfl ?_
  simp only [hm, go_sem, ↓reduceIte]
theorem s_l31Side2 (s : Side) (hl : s.sent.length ≤ 1000000) : Spec Try.prog 83 0 [] [s.ro] (fun r _ _ _ => r = s.ro) := by
  refine mr83 rfl fun c hP hm => ?_
  unfold pc83 Side.ro Side.av
  refine run_seq (run_wpc _ _ _ _ _ ?_)
  simp only [hm, go_sem, ↓reduceIte]
  refine run_seq (run_wpc _ _ _ _ _ ?_)
  simp only [hm, go_sem, ↓reduceIte]
  refine ⟨⟨fun r hr => by obtain ⟨d, _, rfl⟩ := List.mem_map.1 hr; rfl, by omega⟩, ?_⟩
  refine run_frz 2 rfl (by first | (simp only [hm, List.length_map, go_sem, ↓reduceIte]; done) | (simp only [hm, List.length_map, go_sem, ↓reduceIte]; omega)) (by first | (simp only [hm, List.length_map, go_sem, ↓reduceIte]; done) | (simp only [hm, List.length_map, go_sem, ↓reduceIte]; omega)) ?_; simp only [hm, take_map_len, List.drop_zero, go_sem, ↓reduceIte]
  refine run_wpc _ _ _ _ _ ?_
  simp only [hm, go_sem, ↓reduceIte]
theorem s_l31Copy (a : Assoc) (ha : a.a.sent.length ≤ 1000000) (hb : a.b.sent.length ≤ 1000000) : Spec Try.prog 65 0 [] [a.ro] (fun r _ _ _ => r = a.ro) := by
  refine mk65 rfl fun c hP hm => ?_
  unfold pc65 Assoc.ro Assoc.av
  simp only [hm, go_sem, ↓reduceIte]
  refine call_data (hP ▸ s_l31Side2 a.a ha) rfl rfl ?_
  simp only [Side.ro, Side.av, hm, go_sem, ↓reduceIte]
  refine call_data (hP ▸ s_l31Side2 a.b hb) rfl rfl ?_
  simp only [Side.ro, Side.av, hm, go_sem, ↓reduceIte]
/-- Which rules are broken, as rows. -/
def bRows (b : Nat → Bool) : List (List RV) := (List.range 12).map fun k => [RV.b (b k)]
theorem bRows_len (b : Nat → Bool) : (bRows b).length = 12 := by simp [bRows]
theorem bRows_get (b : Nat → Bool) {k : Nat} (h : k < 12) : (bRows b).getD k [] = [.b (b k)] := by
  simp [bRows, List.getD_eq_getElem?_getD, h]
theorem bRows_set {b b' : Nat → Bool} {n : Nat} (h : ∀ k, b' k = (b k || k == n)) : (bRows b).set n [.b true] = bRows b' := by
  refine List.ext_getElem (by simp [bRows]) fun k h1 h2 => ?_
  simp only [bRows, List.getElem_set, List.getElem_map, List.getElem_range, h]
  by_cases e : n = k
  · subst e; simp
  · have : ¬ k = n := fun e' => e e'.symm
    simp [e, this]
theorem brokenB_add (a : Assoc) (byB : Bool) (p : Packet) (rs : List Int) {r : Int} (hr : 0 ≤ r) (k : Nat) : brokenB a byB p (rs ++ [r]) k = (brokenB a byB p rs k || k == r.toNat) := by
  unfold brokenB
  have e : (rs ++ [r]).contains (k : Int) = (rs.contains (k : Int) || k == r.toNat) := by
    rw [Bool.eq_iff_iff]
    simp only [List.contains_iff_mem, List.mem_append, List.mem_singleton, Bool.or_eq_true, beq_iff_eq]
    constructor
    · rintro (h | h)
      · exact .inl h
      · right; omega
    · rintro (h | h)
      · exact .inl h
      · right; omega
  rw [e]
  cases (k == 1 && !aloneB p) <;> cases (k == 2 && decide (p.tag ≠ tagOf a byB p)) <;> simp
theorem stepInit_ok (a : Assoc) (byB : Bool) (c : Chunk) (h : AW a) : AW (stepInit a byB c).1 ∧ 0 ≤ (stepInit a byB c).2 ∧ (stepInit a byB c).2 ≤ 11 := by
  unfold stepInit
  simp only
  split
  · exact ⟨h, by simp, by simp⟩
  · cases hg : initGet c with
    | none => exact ⟨h, by simp, by simp⟩
    | some x =>
      simp only
      split
      · split
        · exact ⟨h, by simp, by simp⟩
        · exact ⟨h, by simp, by simp⟩
      · refine ⟨AW.put (a := { a with state := a.state + 1 }) h byB ?_, by simp, by simp⟩
        have := initGet_ok hg
        simp only [initB, serialB, Bool.and_eq_true, decide_eq_true_eq] at this
        exact ⟨by simp only; omega, by simp, by simp⟩
theorem stepData_ok (a : Assoc) (byB : Bool) (c : Chunk) (h : AW a) : AW (stepData a byB c).1 ∧ 0 ≤ (stepData a byB c).2 ∧ (stepData a byB c).2 ≤ 11 := by
  unfold stepData
  simp only
  split
  · exact ⟨h, by simp, by simp⟩
  · cases hg : dataGet c with
    | none => exact ⟨h, by simp, by simp⟩
    | some d =>
      simp only
      split
      · split
        · exact ⟨h, by simp, by simp⟩
        · exact ⟨h, by simp, by simp⟩
      split
      · exact ⟨h, by simp, by simp⟩
      split
      · exact ⟨h, by simp, by simp⟩
      split
      · exact ⟨h, by simp, by simp⟩
      split
      · exact ⟨h, by simp, by simp⟩
      split
      · exact ⟨h, by simp, by simp⟩
      · rename_i hlen
        obtain ⟨h1, h2, h3⟩ := h.own byB
        refine ⟨h.put byB ⟨h1, by simp only [List.length_append, List.length_cons, List.length_nil]; omega, fun x hx => ?_⟩, by simp, by simp⟩
        rcases List.mem_append.1 hx with hx | hx
        · exact h3 x hx
        · simp only [List.mem_singleton] at hx; subst hx; exact dataGet_ok hg
theorem stepSack_ok (a : Assoc) (byB : Bool) (c : Chunk) (h : AW a) : AW (stepSack a byB c).1 ∧ 0 ≤ (stepSack a byB c).2 ∧ (stepSack a byB c).2 ≤ 11 := by
  unfold stepSack
  simp only
  split
  · exact ⟨h, by simp, by simp⟩
  · cases hg : sackGet c with
    | none => exact ⟨h, by simp, by simp⟩
    | some x =>
      simp only
      split
      · exact ⟨h, by simp, by simp⟩
      · exact ⟨h.put (!byB) (h.other byB), by simp, by simp⟩
theorem stepEnd_ok (a : Assoc) (byB : Bool) (k : Int) (h : AW a) : AW (stepEnd a byB k).1 ∧ 0 ≤ (stepEnd a byB k).2 ∧ (stepEnd a byB k).2 ≤ 11 := by
  unfold stepEnd
  simp only
  repeat' split
  all_goals exact ⟨h, by simp, by simp⟩
theorem stepRest_ok (a : Assoc) (byB : Bool) (k : Int) (h : AW a) : AW (stepRest a byB k).1 ∧ 0 ≤ (stepRest a byB k).2 ∧ (stepRest a byB k).2 ≤ 11 := by
  unfold stepRest
  repeat' split
  all_goals exact ⟨h, by simp, by simp⟩
theorem stepChunk_ok (a : Assoc) (byB : Bool) (c : Chunk) (h : AW a) : AW (stepChunk a byB c).1 ∧ 0 ≤ (stepChunk a byB c).2 ∧ (stepChunk a byB c).2 ≤ 11 := by
  unfold stepChunk
  split
  · exact stepInit_ok a byB c h
  split
  · exact stepData_ok a byB c h
  split
  · exact stepSack_ok a byB c h
  split
  · exact stepEnd_ok a byB _ h
  · exact stepRest_ok a byB _ h
theorem stepChunks_append (byB : Bool) (c : Chunk) : ∀ (l : List Chunk) (a : Assoc) (rs : List Int), stepChunks byB (l ++ [c]) a rs = ((stepChunk (stepChunks byB l a rs).1 byB c).1, (stepChunks byB l a rs).2 ++ [(stepChunk (stepChunks byB l a rs).1 byB c).2])
  | [], a, rs => rfl
  | x :: l, a, rs => by simp only [List.cons_append, stepChunks]; exact stepChunks_append byB c l _ _
theorem stepChunks_ok (byB : Bool) : ∀ (l : List Chunk) (a : Assoc) (rs : List Int), AW a → AW (stepChunks byB l a rs).1
  | [], a, rs, h => h
  | c :: l, a, rs, h => by simp only [stepChunks]; exact stepChunks_ok byB l _ _ (stepChunk_ok a byB c h).1
abbrev Assoc.cellsA (a : Assoc) : List AV := [.i a.fr, .i a.to, .i a.state, .bo a.byB, .i a.a.tag, .i a.a.streams, .i a.a.first, .r (.ro none (a.a.sent.map Data.row)), .i a.a.acked, .i a.b.tag, .i a.b.streams, .i a.b.first, .r (.ro none (a.b.sent.map Data.row)), .i a.b.acked]
theorem s_l31Step (a : Assoc) (byB : Bool) (p : Packet) (hw : AW a) (hp : packB p = true) : Spec Try.prog 110 0 [] [a.ro, .bo byB, p.ro] (Plain fun r => r = .tup [(stepChunks byB p.chunks a []).1.ro, .r (.ro none (bRows (brokenB a byB p (stepChunks byB p.chunks a []).2)))]) := by
  have hpb := hp
  simp only [packB, Bool.and_eq_true, decide_eq_true_eq, List.all_eq_true, chunkB] at hpb
  have hcl : p.chunks.length ≤ 4 := by omega
  have hbody : ∀ x ∈ p.chunks, x.body.length ≤ 60 := fun x hx => (hpb.2 x hx).2
  have hal := s_specPacketAlone p (by omega)
  have htg := s_l31Tag a byB p (by omega)
  unfold Packet.ro at hal htg
  have hu : a.ro = .agg [.i a.fr, .i a.to, .i a.state, .bo a.byB, .i a.a.tag, .i a.a.streams, .i a.a.first, .r (.ro none (a.a.sent.map Data.row)), .i a.a.acked, .i a.b.tag, .i a.b.streams, .i a.b.first, .r (.ro none (a.b.sent.map Data.row)), .i a.b.acked] := rfl
  rw [hu] at htg
  refine Spec.plain ?_ rfl
  refine mr110 rfl fun c hP hm => ?_
  unfold pc110 Packet.ro
  rw [hu]
  refine run_seq (run_wpc _ _ _ _ _ ?_)
  simp only [hm, go_sem, ↓reduceIte]
  refine run_seq (run_wpc _ _ _ _ _ ?_)
  simp only [hm, go_sem, ↓reduceIte]
  refine ⟨by omega, ?_⟩
  refine run_seq (run_wpc _ _ _ _ _ ?_)
  simp only [hm, go_sem, ↓reduceIte]
  refine call_pure (hP ▸ hal) rfl rfl ?_
  simp only [hm, go_sem, ↓reduceIte]
  refine run_seq (run_wpc _ _ _ _ _ ?_)
  simp only [hm, go_sem, ↓reduceIte]
  refine call_pure (hP ▸ htg) rfl rfl ?_
  simp only [hm, go_sem, ↓reduceIte]
  have e : (p.tag != tagOf a byB p) = decide (p.tag ≠ tagOf a byB p) := by by_cases h : p.tag = tagOf a byB p <;> simp [h]
  have hr0 : [[.b false], [.b (!aloneB p)], [.b (p.tag != tagOf a byB p)], [.b false], [.b false], [.b false], [.b false], [.b false], [.b false], [.b false], [.b false], [.b false]] = bRows (brokenB a byB p []) := by
    rw [e]
    simp [bRows, brokenB, List.range, List.range.loop]
  simp only [hr0, hm, go_sem, ↓reduceIte]
  refine run_seq (run_wpc _ _ _ _ _ ?_)
  simp only [hm, go_sem, ↓reduceIte]
  refine run_seq (run_wpc _ _ _ _ _ ?_)
  simp only [hm, go_sem, ↓reduceIte]
  refine run_exit 0 (fun t0 => t0 = ⟨[(6, .ptr 2 0 0), (8, .sl 3 0 12), (9, .ptr 4 0 0)], [(2, .var [.i 0, .i 0, .i 0, .bo false, .i 0, .i 0, .i 0, .r .nil, .i 0, .i 0, .i 0, .i 0, .r .nil, .i 0]), (3, .row 1 (bRows (brokenB a byB p (stepChunks byB p.chunks a []).2))), (4, .var (stepChunks byB p.chunks a []).1.cellsA)], 5, []⟩) ?_ ?_
  · refine lp_wpc (α := Nat) (fun i => ⟨[(1, .bo byB), (5, .ptr 1 0 0), (6, .ptr 2 0 0), (8, .sl 3 0 12), (9, .ptr 4 0 0), (10, .i i)], [(1, .var [.i p.fr, .i p.to, .i p.tag, .r (.ro none (p.chunks.map Chunk.row))]), (2, .var [.i 0, .i 0, .i 0, .bo false, .i 0, .i 0, .i 0, .r .nil, .i 0, .i 0, .i 0, .i 0, .r .nil, .i 0]), (3, .row 1 (bRows (brokenB a byB p (stepChunks byB (p.chunks.take i) a []).2))), (4, .var (stepChunks byB (p.chunks.take i) a []).1.cellsA)], 5, []⟩)
      (fun i => i ≤ p.chunks.length) (fun i => p.chunks.length - i) 0 (Nat.zero_le _) (by simp only [List.take_zero, stepChunks, Assoc.cellsA]; (refine le_ev [] ?_; simp only [hm, go_sem, ↓reduceIte]; first | done | rfl | exact ⟨rfl, rfl⟩)) ?_
    intro i hi
    unfold pc110l0
    rcases Nat.lt_or_ge i p.chunks.length with hil | hil
    · have hw1 : IntKind.i64.wrap ((i : Int) + 1) = ((i + 1 : Nat) : Int) := by rw [wrap64 (by omega) (by omega)]; omega
      have hg := getD_map (f := Chunk.row) hil
      have htk := take_get hil
      have hbx := hbody _ (List.getElem_mem hil)
      have hok := stepChunks_ok byB (p.chunks.take i) a [] hw
      have hap := stepChunks_append byB p.chunks[i] (p.chunks.take i) a []
      rw [← htk] at hap
      generalize p.chunks[i] = x at hg hbx hap
      generalize (stepChunks byB (p.chunks.take i) a []).1 = o at hok hap
      generalize (stepChunks byB (p.chunks.take i) a []).2 = rs at hap
      have hch := s_l31Chunk o byB x (by omega) hok
      have hsr := (stepChunk_ok o byB x hok).2
      unfold resA at hch
      generalize stepChunk o byB x = y at hch hsr hap
      have hset : (bRows (brokenB a byB p rs)).set y.2.toNat [.b true] = bRows (brokenB a byB p (rs ++ [y.2])) := bRows_set fun k => brokenB_add a byB p rs hsr.1 k
      have hlr := bRows_len (brokenB a byB p rs)
      have hu2 : o.ro = .agg o.cellsA := rfl
      have hu3 : y.1.ro = .agg y.1.cellsA := rfl
      rw [hu2, hu3] at hch
      unfold Assoc.cellsA at hch ⊢
      unfold Chunk.av at hch
      simp only [hw1, Int.toNat_natCast, hg, Chunk.row, hm, go_sem, ↓reduceIte]
      repeat' first
        | refine And.intro ?_ ?_
        | intro _
        | (refine call_data (hP ▸ hch) rfl rfl ?_; simp only [hw1, hset, Int.toNat_natCast, hg, Chunk.row, hm, go_sem, ↓reduceIte])
      all_goals first
        | omega
        | (refine ⟨i + 1, hil, by omega, ?_⟩; rw [hap]; simp only [Assoc.cellsA]; (refine le_ev [] ?_; simp only [hm, go_sem, ↓reduceIte]; first | done | rfl | exact ⟨rfl, rfl⟩))
    · have : i = p.chunks.length := by omega
      subst this
      rw [List.take_length]
      simp only [hm, go_sem, ↓reduceIte]
      repeat' first | refine And.intro ?_ ?_ | intro _
      all_goals first
        | omega
        | (refine ⟨_, rfl, ?_⟩; (refine le_ev [] ?_; simp only [hm, go_sem, ↓reduceIte]; first | done | rfl | exact ⟨rfl, rfl⟩))
  rintro t0 rfl
  rw [if_pos rfl]
  have hu3 : (stepChunks byB p.chunks a []).1.ro = .agg (stepChunks byB p.chunks a []).1.cellsA := rfl
  rw [hu3]
  generalize (stepChunks byB p.chunks a []).1 = o
  have hlr := bRows_len (brokenB a byB p (stepChunks byB p.chunks a []).2)
  generalize bRows (brokenB a byB p (stepChunks byB p.chunks a []).2) = R at *
  have h12 : (12 : Nat) = R.length := hlr.symm
  unfold Assoc.cellsA
  rw [h12]
  refine run_frz 3 rfl (by first | (simp only [hm, List.length_map, go_sem, ↓reduceIte]; done) | (simp only [hm, List.length_map, go_sem, ↓reduceIte]; omega)) (by first | (simp only [hm, List.length_map, go_sem, ↓reduceIte]; done) | (simp only [hm, List.length_map, go_sem, ↓reduceIte]; omega)) ?_; simp only [hm, take_map_len, List.drop_zero, go_sem, ↓reduceIte]
  refine run_wpc _ _ _ _ _ ?_
  simp only [hm, go_sem, ↓reduceIte]
  rw [List.take_length]
end Go.Cap

/- Contracts: the step of an association (the reference's). -/
namespace Go.Cap
open Go Go.Proofs
set_option maxRecDepth 100000
set_option linter.unusedSimpArgs false
set_option linter.unusedVariables false
attribute [local irreducible] Call Run Spec Le

theorem sideLoop_data {add : Int → Int → Int} {s : Side} : ∀ {i : Nat} {l : List Data}, sideLoop add s i l = true → ∀ d ∈ l, dataB d = true
  | _, [], _, _, h => by cases h
  | i, x :: l, h, d, hd => by
    simp only [sideLoop, partB, Bool.and_eq_true] at h
    rcases List.mem_cons.1 hd with rfl | hd
    · exact h.1.1.1.1
    · exact sideLoop_data h.2 d hd
theorem sideB_SW {s : Side} (h : sideB s = true) : SW s := by
  unfold sideB at h
  split at h
  · simp only [noneB, Bool.and_eq_true, beq_iff_eq, decide_eq_true_eq] at h
    obtain ⟨⟨⟨_, h2⟩, h3⟩, _⟩ := h
    have : s.sent = [] := List.length_eq_zero_iff.1 h3
    exact ⟨by omega, by omega, by rw [this]; simp⟩
  · simp only [headB, Bool.and_eq_true, decide_eq_true_eq, serialB] at h
    exact ⟨by omega, by omega, sideLoop_data h.2⟩
theorem assocB_AW {a : Assoc} (h : assocB a = true) : AW a := by
  have := assocB_iff.1 h
  exact ⟨sideB_SW this.2.2.2.2.1, sideB_SW this.2.2.2.2.2.1⟩
/-- The rules up to a number. -/
def rulesTo (b : Nat → Bool) (n : Nat) : List Int := ((List.range n).filter fun k => decide (1 ≤ k) && b k).map fun (k : Nat) => (k : Int)
theorem rulesTo_12 (b : Nat → Bool) : rulesTo b 12 = rulesOf b := rfl
theorem rulesTo_1 (b : Nat → Bool) : rulesTo b 1 = [] := rfl
theorem rulesTo_succ (b : Nat → Bool) {n : Nat} (h : 1 ≤ n) : rulesTo b (n + 1) = rulesTo b n ++ if b n = true then [(n : Int)] else [] := by
  unfold rulesTo
  rw [List.range_succ, List.filter_append, List.map_append]
  congr 1
  cases hb : b n <;> simp [h, hb]
theorem rulesTo_le (b : Nat → Bool) (n : Nat) : (rulesTo b n).length ≤ n := by
  unfold rulesTo
  rw [List.length_map]
  exact Nat.le_trans (List.length_filter_le ..) (by simp)
def zeroA : AV := noAssoc.av (.r .nil) (.r .nil)
def AStepQ (x : Assoc × List Int) : AV → List (Nat × Blk) → Nat → List Nat → Prop := fun r hp _ _ =>
  ∃ b, hget hp b = some (.row 1 (x.2.map intRow)) ∧ (r = .tup [x.1.ro, .sl b 0 x.2.length] ∨ (x.1 = noAssoc ∧ r = .tup [zeroA, .sl b 0 x.2.length]))
theorem s_specAssocStep0 (a : Assoc) (p : Packet) (ha : SFit a.a) (hb : SFit a.b) (hl : p.chunks.length ≤ 1000000) : Spec Try.prog 95 0 [] [a.ro, p.ro] (AStepQ (assocStep a p)) := by
  have hav := s_specAssocValid a ha hb
  have hpv := s_specPacketValid p hl
  have hu : a.ro = .agg a.cellsA := rfl
  have hz : byBOf a p = (p.fr == a.to && p.to == a.fr) := by
    unfold byBOf
    rw [beq_dec, beq_dec, ← Bool.decide_and]
  refine mr95 rfl fun c hP hm => ?_
  unfold pc95
  unfold Packet.ro at hpv ⊢
  rw [hu] at hav ⊢
  unfold Assoc.cellsA at hav ⊢
  refine run_seq (run_wpc _ _ _ _ _ ?_)
  simp only [hm, go_sem, ↓reduceIte]
  refine run_join (fun t => t = ⟨[(2, .ptr 0 0 0), (3, .ptr 1 0 0), (4, .ptr 2 0 0), (6, .bo (byBOf a p))], [(2, .var [.i 0, .i 0, .i 0, .bo false, .i 0, .i 0, .i 0, .r .nil, .i 0, .i 0, .i 0, .i 0, .r .nil, .i 0]), (1, .var [.i p.fr, .i p.to, .i p.tag, .r (.ro none (p.chunks.map Chunk.row))]), (0, .var a.cellsA)], 3, []⟩) (run_wpc _ _ _ _ _ ?_) ?_
  · rw [hz]
    simp only [hm, go_sem, ↓reduceIte]
    repeat' first | refine And.intro ?_ ?_ | intro _
    all_goals first
      | (refine ⟨_, rfl, ?_⟩; simp only [*, beq_self_eq_true, Bool.true_and, Bool.false_and]; (refine le_ev [] ?_; simp only [hm, go_sem, ↓reduceIte]; first | done | rfl | exact ⟨rfl, rfl⟩))
      | (refine ⟨_, rfl, ?_⟩; rw [beq_dec p.fr, decide_eq_false (by assumption), Bool.false_and]; (refine le_ev [] ?_; simp only [hm, go_sem, ↓reduceIte]; first | done | rfl | exact ⟨rfl, rfl⟩))
  rintro t rfl
  have hbad : (assocB a = false ∨ packB p = false ∨ (byBOf a p = false ∧ ¬ (p.fr = a.fr ∧ p.to = a.to))) → assocStep a p = (noAssoc, []) := fun h => by
    unfold assocStep
    rw [if_pos]
    rcases h with h | h | ⟨h1, h2⟩
    · rw [h]; rfl
    · rw [h]; simp
    · rw [h1]
      have : decide (p.fr ≠ a.fr ∨ p.to ≠ a.to) = true := by
        simp only [decide_eq_true_eq]
        by_cases e : p.fr = a.fr
        · exact .inr fun e2 => h2 ⟨e, e2⟩
        · exact .inl e
      rw [this]; simp
  have hgood : assocB a = true → packB p = true → (byBOf a p = true ∨ (p.fr = a.fr ∧ p.to = a.to)) → assocStep a p = (if (rulesOf (brokenB a (byBOf a p) p (stepChunks (byBOf a p) p.chunks a []).2)).isEmpty then (stepChunks (byBOf a p) p.chunks a []).1 else a, rulesOf (brokenB a (byBOf a p) p (stepChunks (byBOf a p) p.chunks a []).2)) := fun h1 h2 h3 => by
    unfold assocStep
    rw [if_neg]
    rw [h1, h2]
    rcases h3 with h | ⟨e1, e2⟩
    · rw [h]; simp
    · simp [e1, e2]
  generalize hbb : byBOf a p = byB at *
  clear hz
  unfold Assoc.cellsA
  refine run_seq (run_wpc _ _ _ _ _ ?_)
  simp only [hm, go_sem, ↓reduceIte]
  refine call_pure (hP ▸ hav) rfl rfl ?_
  cases h1 : assocB a
  · simp only [hm, go_sem, ↓reduceIte]
    rw [hbad (.inl h1)]
    exact ⟨_, rfl, .inr ⟨rfl, rfl⟩⟩
  simp only [hm, go_sem, ↓reduceIte]
  refine call_pure (hP ▸ hpv) rfl rfl ?_
  cases h2 : packB p
  · simp only [hm, go_sem, ↓reduceIte]
    rw [hbad (.inr (.inl h2))]
    exact ⟨_, rfl, .inr ⟨rfl, rfl⟩⟩
  have hAW := assocB_AW h1
  have hstep := s_l31Step a byB p hAW h2
  have hcA := s_l31Copy a (by have := hAW.1.2.1; omega) (by have := hAW.2.2.1; omega)
  have hCW := stepChunks_ok byB p.chunks a [] hAW
  unfold Packet.ro at hstep
  rw [hu] at hstep hcA
  unfold Assoc.cellsA at hstep hcA
  generalize (stepChunks byB p.chunks a []).1 = o at *
  generalize brokenB a byB p (stepChunks byB p.chunks a []).2 = B at *
  have hco := s_l31Copy o (by have := hCW.1.2.1; omega) (by have := hCW.2.2.1; omega)
  have huo : o.ro = .agg o.cellsA := rfl
  rw [huo] at hstep hco
  unfold Assoc.cellsA at hstep hco
  have key : byB = true ∨ (byB = false ∧ p.fr = a.fr ∧ p.to = a.to) ∨ (byB = false ∧ ¬ (p.fr = a.fr ∧ p.to = a.to)) := by
    cases byB
    · by_cases h : p.fr = a.fr ∧ p.to = a.to
      · exact .inr (.inl ⟨rfl, h⟩)
      · exact .inr (.inr ⟨rfl, h⟩)
    · exact .inl rfl
  rcases key with hk | hk | hk
  case inr.inr =>
    obtain ⟨rfl, hk2⟩ := hk
    rw [hbad (.inr (.inr ⟨rfl, hk2⟩))]
    have hne : p.fr ≠ a.fr ∨ p.to ≠ a.to := by
      by_cases e : p.fr = a.fr
      · exact .inr fun e2 => hk2 ⟨e, e2⟩
      · exact .inl e
    simp only [hm, go_sem, ↓reduceIte]
    repeat' first | refine And.intro ?_ ?_ | intro _
    all_goals first
      | exact ⟨_, rfl, .inr ⟨rfl, rfl⟩⟩
      | (exfalso; simp_all; done)
  case inl =>
    have hx := hgood h1 h2 (.inl hk)
    subst hk
    simp only [hm, go_sem, ↓reduceIte]
    refine run_seq (run_wpc _ _ _ _ _ ?_)
    simp only [hm, go_sem, ↓reduceIte]
    refine call_dataP (hP ▸ hstep) rfl rfl ?_
    simp only [hm, go_sem, ↓reduceIte]
    refine run_seq (run_wpc _ _ _ _ _ ?_)
    simp only [hm, go_sem, ↓reduceIte]
    refine run_seq (run_wpc _ _ _ _ _ ?_)
    simp only [hm, go_sem, ↓reduceIte]
    rw [hx]
    refine run_exit 0 (fun t0 => t0 = ⟨[(2, .ptr 0 0 0), (4, .ptr 2 0 0), (7, .ptr 3 0 0), (9, .sl 4 0 (rulesTo B 12).length)], [(0, .var a.cellsA), (2, .var [.i 0, .i 0, .i 0, .bo false, .i 0, .i 0, .i 0, .r .nil, .i 0, .i 0, .i 0, .i 0, .r .nil, .i 0]), (3, .var o.cellsA), (4, .row 1 ((rulesTo B 12).map intRow))], 5, []⟩) ?_ ?_
    · refine lp_wpc (α := Nat) (fun i => ⟨[(2, .ptr 0 0 0), (4, .ptr 2 0 0), (7, .ptr 3 0 0), (8, .r (.ro none (bRows B))), (9, .sl 4 0 (rulesTo B i).length), (10, .i i)], [(0, .var a.cellsA), (2, .var [.i 0, .i 0, .i 0, .bo false, .i 0, .i 0, .i 0, .r .nil, .i 0, .i 0, .i 0, .i 0, .r .nil, .i 0]), (3, .var o.cellsA), (4, .row 1 ((rulesTo B i).map intRow))], 5, []⟩)
        (fun i => 1 ≤ i ∧ i ≤ 12) (fun i => 12 - i) 1 (by omega) (by simp only [rulesTo_1, List.map_nil, List.length_nil, Assoc.cellsA]; (refine le_ev [] ?_; simp only [hm, go_sem, ↓reduceIte]; first | done | rfl | exact ⟨rfl, rfl⟩)) ?_
      rintro i ⟨hi1, hi⟩
      unfold pc95l0
      have hbl := bRows_len B
      rcases Nat.lt_or_ge i 12 with hil | hil
      · have hw1 : IntKind.i64.wrap ((i : Int) + 1) = ((i + 1 : Nat) : Int) := by rw [wrap64 (by omega) (by omega)]; omega
        have hg := bRows_get B hil
        have hs := rulesTo_succ B hi1
        have hle := rulesTo_le B i
        generalize rulesTo B i = rs at hs hle
        have hrt : List.take rs.length (rs.map intRow) = rs.map intRow := List.take_of_length_le (by simp)
        cases hBi : B i <;> rw [hBi] at hg hs <;> simp only [hw1, hg, hrt, hbl, Int.toNat_natCast, hm, go_sem, ↓reduceIte]
        all_goals
          repeat' first | refine And.intro ?_ ?_ | intro _
        all_goals first
          | omega
          | (refine ⟨i + 1, ⟨by omega, by omega⟩, by omega, ?_⟩; rw [hs]; simp only [Bool.false_eq_true, if_false, if_true, List.append_nil, List.map_append, List.length_append, List.length_cons, List.length_nil, List.map_cons, List.map_nil, intRow]; (refine le_ev [] ?_; simp only [hm, go_sem, ↓reduceIte]; first | done | rfl | exact ⟨rfl, rfl⟩))
      · have : i = 12 := by omega
        subst this
        simp only [hbl, hm, go_sem, ↓reduceIte]
        repeat' first | refine And.intro ?_ ?_ | intro _
        all_goals first
          | omega
          | (refine ⟨_, rfl, ?_⟩; (refine le_ev [] ?_; simp only [hm, go_sem, ↓reduceIte]; first | done | rfl | exact ⟨rfl, rfl⟩))
    rintro t0 rfl
    rw [if_pos rfl, rulesTo_12]
    generalize rulesOf B = rs at hx ⊢
    unfold Assoc.cellsA
    refine run_wpc _ _ _ _ _ ?_
    simp only [hm, go_sem, ↓reduceIte]
    cases rs with
    | nil =>
      simp only [List.length_nil, List.isEmpty_nil, if_true, hm, go_sem, ↓reduceIte]
      refine call_data (hP ▸ hco) rfl rfl ?_
      simp only [hm, go_sem, ↓reduceIte]
      exact ⟨4, rfl, .inl rfl⟩
    | cons r rs =>
      simp only [List.length_cons, List.isEmpty_cons, Bool.false_eq_true, if_false, hm, go_sem, ↓reduceIte]
      repeat' first | refine And.intro ?_ ?_ | intro _ | (refine call_data (hP ▸ hcA) rfl rfl ?_; simp only [hm, go_sem, ↓reduceIte])
      all_goals first
        | omega
        | exact ⟨4, rfl, .inl rfl⟩
        | (exfalso; omega)
  case inr.inl =>
    obtain ⟨rfl, hk1, hk2⟩ := hk
    have hx := hgood h1 h2 (.inr ⟨hk1, hk2⟩)
    rw [hk1, hk2] at hstep
    simp only [hk1, hk2, hm, go_sem, ↓reduceIte]
    refine run_seq (run_wpc _ _ _ _ _ ?_)
    simp only [hm, go_sem, ↓reduceIte]
    refine call_dataP (hP ▸ hstep) rfl rfl ?_
    simp only [hm, go_sem, ↓reduceIte]
    refine run_seq (run_wpc _ _ _ _ _ ?_)
    simp only [hm, go_sem, ↓reduceIte]
    refine run_seq (run_wpc _ _ _ _ _ ?_)
    simp only [hm, go_sem, ↓reduceIte]
    rw [hx]
    refine run_exit 0 (fun t0 => t0 = ⟨[(2, .ptr 0 0 0), (4, .ptr 2 0 0), (7, .ptr 3 0 0), (9, .sl 4 0 (rulesTo B 12).length)], [(0, .var a.cellsA), (2, .var [.i 0, .i 0, .i 0, .bo false, .i 0, .i 0, .i 0, .r .nil, .i 0, .i 0, .i 0, .i 0, .r .nil, .i 0]), (3, .var o.cellsA), (4, .row 1 ((rulesTo B 12).map intRow))], 5, []⟩) ?_ ?_
    · refine lp_wpc (α := Nat) (fun i => ⟨[(2, .ptr 0 0 0), (4, .ptr 2 0 0), (7, .ptr 3 0 0), (8, .r (.ro none (bRows B))), (9, .sl 4 0 (rulesTo B i).length), (10, .i i)], [(0, .var a.cellsA), (2, .var [.i 0, .i 0, .i 0, .bo false, .i 0, .i 0, .i 0, .r .nil, .i 0, .i 0, .i 0, .i 0, .r .nil, .i 0]), (3, .var o.cellsA), (4, .row 1 ((rulesTo B i).map intRow))], 5, []⟩)
        (fun i => 1 ≤ i ∧ i ≤ 12) (fun i => 12 - i) 1 (by omega) (by simp only [rulesTo_1, List.map_nil, List.length_nil, Assoc.cellsA]; (refine le_ev [] ?_; simp only [hm, go_sem, ↓reduceIte]; first | done | rfl | exact ⟨rfl, rfl⟩)) ?_
      rintro i ⟨hi1, hi⟩
      unfold pc95l0
      have hbl := bRows_len B
      rcases Nat.lt_or_ge i 12 with hil | hil
      · have hw1 : IntKind.i64.wrap ((i : Int) + 1) = ((i + 1 : Nat) : Int) := by rw [wrap64 (by omega) (by omega)]; omega
        have hg := bRows_get B hil
        have hs := rulesTo_succ B hi1
        have hle := rulesTo_le B i
        generalize rulesTo B i = rs at hs hle
        have hrt : List.take rs.length (rs.map intRow) = rs.map intRow := List.take_of_length_le (by simp)
        cases hBi : B i <;> rw [hBi] at hg hs <;> simp only [hw1, hg, hrt, hbl, Int.toNat_natCast, hm, go_sem, ↓reduceIte]
        all_goals
          repeat' first | refine And.intro ?_ ?_ | intro _
        all_goals first
          | omega
          | (refine ⟨i + 1, ⟨by omega, by omega⟩, by omega, ?_⟩; rw [hs]; simp only [Bool.false_eq_true, if_false, if_true, List.append_nil, List.map_append, List.length_append, List.length_cons, List.length_nil, List.map_cons, List.map_nil, intRow]; (refine le_ev [] ?_; simp only [hm, go_sem, ↓reduceIte]; first | done | rfl | exact ⟨rfl, rfl⟩))
      · have : i = 12 := by omega
        subst this
        simp only [hbl, hm, go_sem, ↓reduceIte]
        repeat' first | refine And.intro ?_ ?_ | intro _
        all_goals first
          | omega
          | (refine ⟨_, rfl, ?_⟩; (refine le_ev [] ?_; simp only [hm, go_sem, ↓reduceIte]; first | done | rfl | exact ⟨rfl, rfl⟩))
    rintro t0 rfl
    rw [if_pos rfl, rulesTo_12]
    generalize rulesOf B = rs at hx ⊢
    unfold Assoc.cellsA
    refine run_wpc _ _ _ _ _ ?_
    simp only [hm, go_sem, ↓reduceIte]
    cases rs with
    | nil =>
      simp only [List.length_nil, List.isEmpty_nil, if_true, hm, go_sem, ↓reduceIte]
      refine call_data (hP ▸ hco) rfl rfl ?_
      simp only [hm, go_sem, ↓reduceIte]
      exact ⟨4, rfl, .inl rfl⟩
    | cons r rs =>
      simp only [List.length_cons, List.isEmpty_cons, Bool.false_eq_true, if_false, hm, go_sem, ↓reduceIte]
      repeat' first | refine And.intro ?_ ?_ | intro _ | (refine call_data (hP ▸ hcA) rfl rfl ?_; simp only [hm, go_sem, ↓reduceIte])
      all_goals first
        | omega
        | exact ⟨4, rfl, .inl rfl⟩
        | (exfalso; omega)
theorem s_specAssocStep (a : Assoc) (p : Packet) (ha : SFit a.a) (hb : SFit a.b) (hl : p.chunks.length ≤ 1000000) : Spec Try.prog 95 0 [] [a.ro, p.ro] (Plain fun r => r = .tup [(assocStep a p).1.ro, .r (.ro none ((assocStep a p).2.map intRow))]) := by
  refine Spec.le (s_specAssocStep0 a p ha hb hl) fun r hp nx gs h => ⟨_, [], 0, [], ⟨rfl, rfl, rfl, rfl⟩, fun c hc => ?_⟩
  obtain ⟨b, hb, h⟩ := h
  generalize assocStep a p = x at hb h
  obtain ⟨x, rs⟩ := x
  simp only at hb h
  rcases h with rfl | ⟨rfl, rfl⟩
  · have hu : x.ro = .agg x.cellsA := rfl
    rw [hu]
    unfold Assoc.cellsA
    refine Le.trans (t := ⟨[(0, .tup [.agg x.cellsA, .sl 0 0 rs.length])], [(0, .row 1 (rs.map intRow))], 1, []⟩) (le_ev [(0, b)] (by simp only [hc, go_sem, ↓reduceIte, hb])) ?_
    refine Le.trans (le_frz 0 rfl (by simp only [List.length_map, go_sem, ↓reduceIte]) (by simp only [go_sem, ↓reduceIte])) ?_
    simp only [take_map_len, List.drop_zero, go_sem, ↓reduceIte]
    exact le_ev [] (by simp only [hc, go_sem, ↓reduceIte])
  · unfold zeroA
    refine Le.trans (t := ⟨[(0, .tup [noAssoc.av (.r .nil) (.r .nil), .sl 0 0 rs.length])], [(0, .row 1 (rs.map intRow))], 1, []⟩) (le_ev [(0, b)] (by simp only [Assoc.av, hc, go_sem, ↓reduceIte, hb])) ?_
    unfold Assoc.av
    refine Le.trans (le_frz 0 rfl (by simp only [List.length_map, go_sem, ↓reduceIte]) (by simp only [go_sem, ↓reduceIte])) ?_
    simp only [take_map_len, List.drop_zero, go_sem, ↓reduceIte]
    refine Le.trans le_denil ?_
    exact le_ev [] (by simp only [hc, Assoc.ro, Assoc.av, noAssoc, noSide, List.map_nil, go_sem, ↓reduceIte])
end Go.Cap

/- Contracts: captures are valid; the records of a talk, twice. -/
namespace Go.Cap
open Go Go.Proofs
set_option maxRecDepth 100000
set_option linter.unusedSimpArgs false
set_option linter.unusedVariables false
attribute [local irreducible] Call Run Spec Le

theorem recsFrom_drop {l : List Rec} {i : Nat} (h : i < l.length) (last : Int) : recsFrom last (l.drop i) = (inB l[i].time last 4294967295 && decide (l[i].text.length ≤ 120) && recsFrom l[i].time (l.drop (i + 1))) := by
  rw [List.drop_eq_getElem_cons h]; rfl
theorem s_l14Record (x : Rec) (last : Int) : Spec Try.prog 89 0 [] [x.av, .i last] (fun r _ _ _ => r = .bo (inB x.time last 4294967295 && decide (x.text.length ≤ 120))) := by
  refine mk89 rfl fun c hP hm => ?_
  unfold pc89 Rec.av
  simp only [hm, go_sem, ↓reduceIte]
  repeat' first | refine And.intro ?_ ?_ | intro _ | (refine c_l6In hP ?_; simp only [hm, go_sem, ↓reduceIte])
  all_goals (apply bo_inj; rw [Bool.eq_iff_iff]; simp [*] <;> omega)
theorem s_specCaptureValid (l : List Rec) (hl : l.length ≤ 1000000000) : Spec Try.prog 76 0 [] [.r (.ro none (l.map Rec.row))] (fun r _ _ _ => r = .bo (captB l)) := by
  refine mk76 rfl fun c hP hm => ?_
  unfold pc76
  simp only [hm, go_sem, ↓reduceIte]
  refine lp_wpc (α := Nat × Int) (fun y => ⟨[(0, .r (.ro none (l.map Rec.row))), (3, .i y.2), (4, .i y.1)], [], 0, []⟩)
    (fun y => y.1 ≤ l.length ∧ recsFrom y.2 (l.drop y.1) = recsFrom 0 l) (fun y => l.length - y.1) (0, 0) ⟨Nat.zero_le _, rfl⟩ (by (refine le_ev [] ?_; simp only [hm, go_sem, ↓reduceIte]; first | done | rfl | exact ⟨rfl, rfl⟩)) ?_
  rintro ⟨i, last⟩ ⟨hi, hI⟩
  simp only at hi hI
  unfold pc76l0
  rcases Nat.lt_or_ge i l.length with hil | hil
  · have hw : IntKind.i64.wrap ((i : Int) + 1) = ((i + 1 : Nat) : Int) := by rw [wrap64 (by omega) (by omega)]; omega
    rw [recsFrom_drop hil] at hI
    have hg := getD_map (f := Rec.row) hil
    generalize l[i] = x at hI hg
    have hok : recsFrom 0 l = false → AV.r (RV.b false) = AV.bo (captB l) := fun h => by simp [captB, h]
    have hcr := s_l14Record x last
    unfold Rec.av at hcr
    generalize (inB x.time last 4294967295 && decide (x.text.length ≤ 120)) = B at hI hcr
    simp only [hw, Int.toNat_natCast, hg, Rec.row, hm, go_sem, ↓reduceIte]
    repeat' first | refine And.intro ?_ ?_ | intro _ | (refine call_pure (hP ▸ hcr) rfl rfl ?_; simp only [hw, Int.toNat_natCast, hg, Rec.row, hm, go_sem, ↓reduceIte])
    all_goals first
      | omega
      | rfl
      | (rename_i hb; subst hb; refine hok ?_; rw [← hI]; rfl)
      | (rename_i hb; subst hb
         refine ⟨(i + 1, x.time), ⟨hil, by simpa using hI⟩, ?_, ?_⟩
         · simp only; omega
         · (refine le_ev [] ?_; simp only [hm, go_sem, ↓reduceIte]; first | done | rfl | exact ⟨rfl, rfl⟩))
  · have : i = l.length := by omega
    subst this
    rw [List.drop_eq_nil_of_le (Nat.le_refl _)] at hI
    simp only [hm, go_sem, ↓reduceIte]
    repeat' first | refine And.intro ?_ ?_ | intro _
    all_goals first
      | omega
      | (apply bo_inj; rw [Bool.eq_iff_iff]; simp only [captB, ← hI, recsFrom, Bool.true_and, decide_eq_true_eq]; omega)
/-- Records whose times may go round. -/
def recsW (l : List Packet) (begin : Int) : List Rec := (List.range l.length).map fun (i : Nat) => ⟨IntKind.i64.wrap (begin + (i : Int)), packPut (l.getD i default)⟩
theorem recsW_len (l : List Packet) (begin : Int) : (recsW l begin).length = l.length := by simp [recsW]
theorem recs_eq {l : List Packet} {begin : Int} (h : 0 ≤ begin ∧ begin ≤ 4294967295) (hl : l.length ≤ 1000) : recsW l begin = recsOf l begin := by
  unfold recsW recsOf
  refine List.map_congr_left fun i hi => ?_
  have := List.mem_range.1 hi
  rw [wrap64 (by omega) (by omega)]
theorem recs_bad {l : List Packet} {begin : Int} (h : 4294967295 < begin ∧ begin ≤ 9223372036854775807) (hl : l ≠ []) : captB (recsW l begin) = false ∧ captB (recsOf l begin) = false := by
  cases l with
  | nil => exact absurd rfl hl
  | cons p l =>
    have hi : inB begin 0 4294967295 = false := by unfold inB; rw [decide_eq_false (by omega)]
    have key : ∀ rs : List Rec, rs[0]? = some ⟨begin, packPut p⟩ → captB rs = false := fun rs hr => by
      cases rs with
      | nil => cases hr
      | cons x t =>
        have : x = ⟨begin, packPut p⟩ := by simpa using hr
        subst this
        simp [captB, recsFrom, hi]
    constructor
    · refine key _ ?_
      unfold recsW
      rw [List.getElem?_map, List.getElem?_range (by simp)]
      show some (Rec.mk (IntKind.i64.wrap (begin + ((0 : Nat) : Int))) (packPut p)) = _
      rw [wrap64 (by omega) (by omega)]; simp
    · refine key _ ?_
      unfold recsOf
      rw [List.getElem?_map, List.getElem?_range (by simp)]
      show some (Rec.mk (begin + ((0 : Nat) : Int)) (packPut p)) = _
      simp
theorem talkRecs_eq {t : Talk} {begin : Int} (hb : begin ≤ 9223372036854775807) (hl : (talkPk t).length ≤ 1000) : talkRecs t begin = if 0 ≤ begin ∧ captB (recsW (talkPk t) begin) = true then recsW (talkPk t) begin else [] := by
  unfold talkRecs
  by_cases h0 : 0 ≤ begin
  · by_cases h1 : begin ≤ 4294967295
    · rw [recs_eq ⟨h0, h1⟩ hl]
    · by_cases hn : talkPk t = []
      · rw [hn]; simp [recsOf, recsW]
      · obtain ⟨k1, k2⟩ := recs_bad (l := talkPk t) (begin := begin) ⟨by omega, hb⟩ hn
        rw [if_neg (by rw [k2]; simp), if_neg (by rw [k1]; simp)]
  · rw [if_neg (fun h => h0 h.1), if_neg (fun h => h0 h.1)]
theorem recsW_take {l : List Packet} {begin : Int} {i : Nat} (h : i < l.length) : (recsW l begin).take (i + 1) = (recsW l begin).take i ++ [⟨IntKind.i64.wrap (begin + (i : Int)), packPut l[i]⟩] := by
  have hi : i < (recsW l begin).length := by rw [recsW_len]; exact h
  have he : (recsW l begin)[i]? = some ⟨IntKind.i64.wrap (begin + (i : Int)), packPut l[i]⟩ := by
    unfold recsW
    rw [List.getElem?_map, List.getElem?_range h]
    simp [List.getD_eq_getElem?_getD, h]
  rw [take_get hi, Option.some.inj ((List.getElem?_eq_getElem hi).symm.trans he)]
theorem talkPk_small {t : Talk} : (talkPk t).length ≤ 60 := by
  by_cases hv : talkB t = true
  · have h1 := talkParts_12 t false hv
    have h2 := talkParts_12 t true hv
    rw [talkPk_len hv]; omega
  · have : talkPk t = [] := by unfold talkPk; rw [if_neg hv]
    rw [this]; simp
theorem talkPk_one {t : Talk} {i : Nat} (h : i < (talkPk t).length) : ((talkPk t)[i]).chunks.length ≤ 1000000 := by
  by_cases hv : talkB t = true
  · rw [(talkPk_props hv h).2.1]; decide
  · have : talkPk t = [] := by unfold talkPk; rw [if_neg hv]
    rw [this] at h; simp at h
theorem s_specTalkRecords (t : Talk) (begin : Int) (hb : begin ≤ 9223372036854775807) (hl : t.says.length ≤ 1048576) (hx : ∀ s ∈ t.says, s.text.length ≤ 1048576) : Spec Try.prog 63 0 [] [t.ro, .i begin] (New1 (.sl 0 0 (talkRecs t begin).length) 2 ((talkRecs t begin).map Rec.row)) := by
  refine Spec.new1 (r0 := .sl 0 0 (talkRecs t begin).length) (Q := fun r hp _ _ => ∃ b, r = .sl b 0 (talkRecs t begin).length ∧ hget hp b = some (.row 2 ((talkRecs t begin).map Rec.row))) ?_ (fun r hp nx gs h => h) (fun f g h => by simp only [go_sem, h])
  have hsm := talkPk_small (t := t)
  rw [talkRecs_eq hb (by omega)]
  have hone := fun i (h : i < (talkPk t).length) => talkPk_one h
  refine mr63 rfl fun c hP hm => ?_
  unfold pc63 Talk.ro Talk.av
  refine run_seq (run_wpc _ _ _ _ _ ?_)
  simp only [hm, go_sem, ↓reduceIte]
  refine run_seq (run_wpc _ _ _ _ _ ?_)
  simp only [hm, go_sem, ↓reduceIte]
  refine run_seq (run_wpc _ _ _ _ _ ?_)
  simp only [hm, go_sem, ↓reduceIte]
  refine call_dataP (hP ▸ s_specTalkPackets t hl hx) rfl rfl ?_
  simp only [hm, go_sem, ↓reduceIte]
  generalize talkPk t = l at hsm hone
  refine run_seq (run_wpc _ _ _ _ _ ?_)
  simp only [hm, go_sem, ↓reduceIte]
  refine run_exit 0 (fun t0 => t0 = ⟨[(1, .i begin), (5, .sl 0 0 (recsW l begin).length)], [(0, .row 2 ((recsW l begin).map Rec.row))], 1, []⟩) ?_ ?_
  · refine lp_wpc (α := Nat) (fun i => ⟨[(1, .i begin), (5, .sl 0 0 ((recsW l begin).take i).length), (6, .r (.ro none (l.map Packet.row))), (7, .i i)], [(0, .row 2 (((recsW l begin).take i).map Rec.row))], 1, []⟩)
      (fun i => i ≤ l.length) (fun i => l.length - i) 0 (Nat.zero_le _) (by rw [List.take_zero]; simp only [List.map_nil, List.length_nil]; (refine le_ev [(0, 1)] ?_; simp only [hm, go_sem, ↓reduceIte]; first | done | rfl | exact ⟨rfl, rfl⟩)) ?_
    intro i hi
    unfold pc63l0
    rcases Nat.lt_or_ge i l.length with hil | hil
    · have hw : IntKind.i64.wrap ((i : Int) + 1) = ((i + 1 : Nat) : Int) := by rw [wrap64 (by omega) (by omega)]; omega
      have hg := getD_map (f := Packet.row) hil
      have htk := recsW_take (begin := begin) hil
      have hc1 := hone i hil
      have hlt : ((recsW l begin).take i).length ≤ 60 := by rw [List.length_take]; omega
      generalize l[i] = p at hg htk hc1
      generalize (recsW l begin).take i = rs at htk hlt
      have hrt : List.take rs.length (rs.map Rec.row) = rs.map Rec.row := List.take_of_length_le (by simp)
      simp only [hw, hrt, Int.toNat_natCast, hg, Packet.row, hm, go_sem, ↓reduceIte]
      repeat' first | refine And.intro ?_ ?_ | intro _ | (refine call_pure (hP ▸ s_specPacketPut p hc1) rfl rfl ?_; simp only [hw, hrt, Int.toNat_natCast, hg, Packet.row, hm, go_sem, ↓reduceIte])
      all_goals first
        | omega
        | rfl
        | (refine ⟨i + 1, hil, by omega, ?_⟩
           rw [htk]
           simp only [List.map_append, List.length_append, List.length_cons, List.length_nil, List.map_cons, List.map_nil, Rec.row]
           (refine le_ev [(0, 0)] ?_; simp only [hm, go_sem, ↓reduceIte]; first | done | rfl | exact ⟨rfl, rfl⟩))
    · have : i = l.length := by omega
      subst this
      have htl : (recsW l begin).take l.length = recsW l begin := by rw [← recsW_len l begin, List.take_length]
      rw [htl]
      simp only [hm, go_sem, ↓reduceIte]
      repeat' first | refine And.intro ?_ ?_ | intro _
      all_goals first
        | omega
        | (refine ⟨_, rfl, ?_⟩; (refine le_ev [] ?_; simp only [hm, go_sem, ↓reduceIte]; first | done | rfl | exact ⟨rfl, rfl⟩))
  rintro t0 rfl
  rw [if_pos rfl]
  have hwl := recsW_len l begin
  generalize recsW l begin = rs at hwl
  refine run_wpc _ _ _ _ _ ?_
  simp only [hm, go_sem, ↓reduceIte]
  repeat' first | refine And.intro ?_ ?_ | intro _ | (refine call_flat (hP ▸ s_specCaptureValid rs (by omega)) rfl (.cons (Vw.full rfl (by simp)) .nil) ?_; simp only [hm, go_sem, ↓reduceIte])
  all_goals first
    | omega
    | (rename_i hv; rw [if_neg (fun h => by omega)]; exact ⟨1, rfl, rfl⟩)
    | (rename_i hv; rw [if_neg (fun h => by rw [hv] at h; cases h.2)]; exact ⟨1, rfl, rfl⟩)
    | (rename_i h0 hv; rw [if_pos ⟨by omega, hv⟩]; exact ⟨0, rfl, rfl⟩)
end Go.Cap

/- Contracts: the reference reads chunks and packets, as far as a draw needs it. -/
namespace Go.Cap
open Go Go.Proofs
set_option maxRecDepth 100000
set_option linter.unusedSimpArgs false
set_option linter.unusedVariables false
attribute [local irreducible] Call Run Spec Le

theorem byte_range (s : List UInt8) (i : Nat) : 0 ≤ ((s.getD i 0).toNat : Int) ∧ ((s.getD i 0).toNat : Int) < 256 := ⟨Int.natCast_nonneg _, byte_lt _⟩
theorem s_specChunkGetW (s : List UInt8) (i : Nat) (hs : s.length ≤ 10000) (hi : i ≤ 10000) : Spec Try.prog 108 0 [] [.st s, .i i] (Plain fun r => ∃ (k : Chunk) (n : Nat) (b : Bool), r = .tup [k.av, .i n, .bo b] ∧ (b = true → i + 4 ≤ n ∧ n ≤ s.length)) := by
  refine Spec.plainQ ?_ (by rintro r ⟨k, n, b, rfl, _⟩; rfl)
  refine mr108 rfl fun c hP hm => ?_
  unfold pc108
  have hno : ∃ (k : Chunk) (n : Nat) (b : Bool), AV.tup [.agg [.i 0, .i 0, .st []], .i 0, .bo false] = .tup [k.av, .i n, .bo b] ∧ (b = true → i + 4 ≤ n ∧ n ≤ s.length) := ⟨⟨0, 0, []⟩, 0, false, rfl, fun h => by cases h⟩
  have w1 : IntKind.i64.wrap ((s.length : Int) - 4) = (s.length : Int) - 4 := wrap64 (by omega) (by omega)
  have w2 : IntKind.i64.wrap ((i : Int) + 2) = (i : Int) + 2 := wrap64 (by omega) (by omega)
  have w3 : IntKind.i64.wrap ((i : Int) + 1) = (i : Int) + 1 := wrap64 (by omega) (by omega)
  have w4 : IntKind.i64.wrap ((i : Int) + 4) = (i : Int) + 4 := wrap64 (by omega) (by omega)
  have e2 : ((i : Int) + 2).toNat = i + 2 := by omega
  have hn := at2_range s (i + 2)
  refine run_seq (run_wpc _ _ _ _ _ ?_)
  simp only [hm, go_sem, ↓reduceIte]
  refine run_seq (run_wpc _ _ _ _ _ ?_)
  simp only [w1, hm, go_sem, ↓reduceIte]
  repeat' first | refine And.intro ?_ ?_ | intro _
  all_goals first
    | exact hno
    | omega
    | skip
  refine run_seq (run_wpc _ _ _ _ _ ?_)
  simp only [w2, hm, go_sem, ↓reduceIte]
  refine c_l1At hP (by omega) (by omega) ?_
  rw [e2]
  simp only [hm, go_sem, ↓reduceIte]
  generalize at2 s (i + 2) = n at hn
  have w5 : IntKind.i64.wrap ((i : Int) + n) = (i : Int) + n := wrap64 (by omega) (by omega)
  refine run_seq (run_wpc _ _ _ _ _ ?_)
  simp only [w5, hm, go_sem, ↓reduceIte]
  refine c_l6In hP ?_
  simp only [w5, inB_dec, hm, go_sem, ↓reduceIte]
  repeat' first | refine And.intro ?_ ?_ | intro _
  all_goals first
    | exact hno
    | omega
    | skip
  refine run_seq (run_wpc _ _ _ _ _ ?_)
  simp only [w3, w4, w5, hm, go_sem, ↓reduceIte]
  refine ⟨⟨by omega, by omega⟩, ⟨by omega, by omega⟩, ⟨by omega, by omega, by omega⟩, ⟨⟨by omega, by omega⟩, ⟨by omega, by omega⟩, by omega, by omega, by omega⟩, ?_⟩
  have hb1 := byte_range s (i : Int).toNat
  have hb2 := byte_range s ((i : Int) + 1).toNat
  rw [wrap64 (x := ((s.getD (i : Int).toNat 0).toNat : Int)) (by omega) (by omega), wrap64 (x := ((s.getD ((i : Int) + 1).toNat 0).toNat : Int)) (by omega) (by omega)]
  have hx : ∃ x : Chunk, x = ⟨((s.getD (i : Int).toNat 0).toNat : Int), ((s.getD ((i : Int) + 1).toNat 0).toNat : Int), List.drop ((i : Int) + 4).toNat (List.take ((i : Int) + n).toNat s)⟩ := ⟨_, rfl⟩
  obtain ⟨x, hx⟩ := hx
  have hcx : chunkB x = true := by
    rw [hx]
    simp only [chunkB, inB, Bool.and_eq_true, decide_eq_true_eq, List.length_drop, List.length_take]
    omega
  have hk1 : ((s.getD (i : Int).toNat 0).toNat : Int) = x.kind := by rw [hx]
  have hk2 : ((s.getD ((i : Int) + 1).toNat 0).toNat : Int) = x.flags := by rw [hx]
  have hk3 : List.drop ((i : Int) + 4).toNat (List.take ((i : Int) + n).toNat s) = x.body := by rw [hx]
  rw [hk1, hk2, hk3]
  clear hx hk1 hk2 hk3
  have hput := s_l11Put x hcx
  have hpl := chunkPut_len x
  have hle := chunkPut_le hcx
  unfold Chunk.av at hput
  generalize chunkPut x = T at *
  have w6 : IntKind.i64.wrap ((i : Int) + (T.length : Int)) = ((i + T.length : Nat) : Int) := by rw [wrap64 (by omega) (by omega)]; omega
  refine run_seq (run_wpc _ _ _ _ _ ?_)
  simp only [hm, go_sem, ↓reduceIte]
  refine call_pure (hP ▸ hput) rfl rfl ?_
  simp only [hm, go_sem, ↓reduceIte]
  refine run_wpc _ _ _ _ _ ?_
  simp only [w6, Int.toNat_natCast, hm, go_sem, ↓reduceIte]
  repeat' first | refine And.intro ?_ ?_ | intro _
  all_goals first
    | omega
    | exact hno
    | exact ⟨x, i + T.length, true, rfl, fun _ => by omega⟩
theorem s_specPacketGetW (s : List UInt8) (hs : s.length ≤ 10000) : Spec Try.prog 90 0 [] [.st s] (Plain fun r => ∃ (p : Packet) (n : Int), r = .tup [p.ro, .i n] ∧ (0 ≤ n ∧ n ≤ 3) ∧ (n = 0 → packB p = true)) := by
  refine Spec.le (Q := fun r hp _ _ => (∃ n : Int, r = .tup [.agg [.i 0, .i 0, .i 0, .r .nil], .i n] ∧ 1 ≤ n ∧ n ≤ 3) ∨ ∃ (p : Packet) (b : Nat), packB p = true ∧ r = .tup [.agg [.i p.fr, .i p.to, .i p.tag, .sl b 0 p.chunks.length], .i 0] ∧ hget hp b = some (.row 3 (p.chunks.map Chunk.row))) ?_ ?_
  · refine mr90 rfl fun c hP hm => ?_
    unfold pc90
    refine run_seq (run_wpc _ _ _ _ _ ?_)
    simp only [hm, go_sem, ↓reduceIte]
    refine run_seq (run_wpc _ _ _ _ _ ?_)
    simp only [hm, go_sem, ↓reduceIte]
    repeat' first | refine And.intro ?_ ?_ | intro _
    all_goals first
      | exact .inl ⟨1, rfl, by decide, by decide⟩
      | skip
    refine run_seq (run_wpc _ _ _ _ _ ?_)
    simp only [hm, go_sem, ↓reduceIte]
    repeat' first
      | refine And.intro ?_ ?_
      | intro _
      | (refine c_l1At hP (by omega) (by omega) ?_; simp only [hm, go_sem, ↓reduceIte])
      | (refine call_pure (hP ▸ s_l13Sum s (by omega)) rfl rfl ?_; simp only [hm, go_sem, ↓reduceIte])
    all_goals first
      | exact .inl ⟨2, rfl, by decide, by decide⟩
      | skip
    refine run_seq (run_wpc _ _ _ _ _ ?_)
    simp only [hm, go_sem, ↓reduceIte]
    repeat' first
      | refine And.intro ?_ ?_
      | intro _
      | (refine c_l1At hP (by omega) (by omega) ?_; simp only [hm, go_sem, ↓reduceIte])
    refine run_seq (run_wpc _ _ _ _ _ ?_)
    simp only [hm, go_sem, ↓reduceIte]
    refine run_seq (run_wpc _ _ _ _ _ ?_)
    simp only [hm, go_sem, ↓reduceIte]
    generalize at2 s 0 = f0
    generalize at2 s 2 = f1
    generalize IntKind.i64.wrap (IntKind.i64.wrap (65536 * at2 s 4) + at2 s 6) = f2
    refine run_exit 0 (fun t0 => ∃ cs : List Chunk, cs.length ≤ 10000 ∧ t0 = ⟨[(2, .ptr 0 0 0), (4, .ptr 2 0 0)], [(0, .var [.i 0, .i 0, .i 0, .r .nil]), (2, .var [.i f0, .i f1, .i f2, .sl 1 0 cs.length]), (1, .row 3 (cs.map Chunk.row))], 3, []⟩) ?_ ?_
    · refine lp_wpc (α := Nat × List Chunk) (fun y => ⟨[(0, .st s), (2, .ptr 0 0 0), (4, .ptr 2 0 0), (5, .i y.1)], [(0, .var [.i 0, .i 0, .i 0, .r .nil]), (2, .var [.i f0, .i f1, .i f2, .sl 1 0 y.2.length]), (1, .row 3 (y.2.map Chunk.row))], 3, []⟩)
        (fun y => y.1 ≤ 10000 ∧ y.2.length ≤ y.1) (fun y => 10000 - y.1) (12, []) ⟨by decide, by decide⟩ (by (refine le_ev [] ?_; simp only [hm, go_sem, ↓reduceIte]; first | done | rfl | exact ⟨rfl, rfl⟩)) ?_
      rintro ⟨at', cs⟩ ⟨h1, h2⟩
      simp only at h1 h2
      unfold pc90l0
      have hrt : List.take cs.length (cs.map Chunk.row) = cs.map Chunk.row := List.take_of_length_le (by simp)
      simp only [hm, go_sem, ↓reduceIte]
      refine ⟨fun hlt => ?_, fun hge => ?_⟩
      · refine call_plain (hP ▸ s_specChunkGetW s at' hs h1) rfl ?_
        rintro r ⟨k, n, b, rfl, hb⟩
        refine ⟨rfl, ?_⟩
        unfold Chunk.av
        cases b
        · simp only [hm, go_sem, ↓reduceIte]
          exact .inl ⟨3, rfl, by decide, by decide⟩
        · obtain ⟨b1, b2⟩ := hb rfl
          simp only [hrt, hm, go_sem, ↓reduceIte]
          repeat' first | refine And.intro ?_ ?_ | intro _
          all_goals first
            | omega
            | (refine ⟨(n, cs ++ [k]), ⟨by simp only; omega, by simp only [List.length_append, List.length_cons, List.length_nil]; omega⟩, by simp only; omega, ?_⟩
               simp only [List.map_append, List.length_append, List.length_cons, List.length_nil, List.map_cons, List.map_nil, Chunk.row]
               (refine le_ev [] ?_; simp only [hm, go_sem, ↓reduceIte]; first | done | rfl | exact ⟨rfl, rfl⟩))
      · refine ⟨_, ⟨cs, by omega, rfl⟩, ?_⟩
        (refine le_ev [] ?_; simp only [hm, go_sem, ↓reduceIte]; first | done | rfl | exact ⟨rfl, rfl⟩)
    rintro t0 ⟨cs, hcs, rfl⟩
    rw [if_pos rfl]
    have hpv := s_specPacketValid ⟨f0, f1, f2, cs⟩ (by simp only; omega)
    unfold Packet.ro at hpv
    refine run_wpc _ _ _ _ _ ?_
    simp only [hm, go_sem, ↓reduceIte]
    refine call_flat (hP ▸ hpv) rfl (.cons (vw_agg (.cons (vw_self _ _ rfl) (.cons (vw_self _ _ rfl) (.cons (vw_self _ _ rfl) (.cons (Vw.full rfl (by simp)) .nil))))) .nil) ?_
    simp only [hm, go_sem, ↓reduceIte]
    repeat' first | refine And.intro ?_ ?_ | intro _
    all_goals first
      | exact .inl ⟨3, rfl, by decide, by decide⟩
      | (rename_i hv; exact .inr ⟨⟨f0, f1, f2, cs⟩, 1, hv, rfl, rfl⟩)
  · rintro r hp nx gs h
    rcases h with ⟨n, rfl, h1, h2⟩ | ⟨p, b, hv, rfl, hb⟩
    · refine ⟨_, [], 0, [], ⟨⟨noPack, n, rfl, by omega, fun h => by omega⟩, rfl, rfl, rfl⟩, fun c hc => ?_⟩
      refine Le.trans (t := ⟨[(0, .tup [.agg [.i 0, .i 0, .i 0, .r .nil], .i n])], [], 0, []⟩) (le_ev [] (by simp only [hc, go_sem, ↓reduceIte])) le_denil
    · refine ⟨_, [], 0, [], ⟨⟨p, 0, rfl, by decide, fun _ => hv⟩, rfl, rfl, rfl⟩, fun c hc => ?_⟩
      refine Le.trans (t := ⟨[(0, .tup [.agg [.i p.fr, .i p.to, .i p.tag, .sl 0 0 p.chunks.length], .i 0])], [(0, .row 3 (p.chunks.map Chunk.row))], 1, []⟩) (le_ev [(0, b)] (by simp only [hc, go_sem, ↓reduceIte, hb])) ?_
      refine Le.trans (le_frz 0 rfl (by simp only [List.length_map, go_sem, ↓reduceIte]) (by simp only [go_sem, ↓reduceIte])) ?_
      simp only [take_map_len, List.drop_zero, go_sem, ↓reduceIte]
      exact le_ev [] (by simp only [hc, Packet.ro, go_sem, ↓reduceIte])
end Go.Cap

/- Contracts: the reference's monitor: its copy, its notes. -/
namespace Go.Cap
open Go Go.Proofs
set_option maxRecDepth 100000
set_option linter.unusedSimpArgs false
set_option linter.unusedVariables false
/-- Nil slices go into a call as empty data. -/
theorem call_denil {c : Cx} {f : Nat} {args : List AV} {s : St} {K : AV → St → Prop} (h : Call c f (args.map denil) s K) : Call c f args s K := by
  intro M ι w W vs hvs
  refine h M ι w W vs ⟨by rw [List.length_map]; exact hvs.1, fun j y v hy hv => ?_⟩
  rw [List.getElem?_map] at hy
  cases hj : args[j]? with
  | none => rw [hj] at hy; cases hy
  | some c0 =>
    rw [hj] at hy
    cases hy
    exact (hvs.2 j c0 v hj hv).denil
attribute [local irreducible] Call Run Spec Le
/-- A monitor with its own blocks. -/
def Mon.own (m : Mon) : AV := .agg [.i m.records, .sl 0 0 m.list.length, .sl 1 0 m.found.length]
theorem s_l32Copy (m : Mon) (hl : m.list.length ≤ 1000) (hf : m.found.length ≤ 1000000) (ha : ∀ a ∈ m.list, AW a) : Spec Try.prog 71 0 [] [m.ro] (fun r hp nx gs => r = m.own ∧ hp = [(0, .row 14 (m.list.map Assoc.row)), (1, .row 2 (m.found.map Fnd.row))] ∧ nx = 2 ∧ gs = []) := by
  refine Spec.le (Q := fun r hp _ _ => ∃ b1 b2, b1 ≠ b2 ∧ r = .agg [.i m.records, .sl b1 0 m.list.length, .sl b2 0 m.found.length] ∧ hget hp b1 = some (.row 14 (m.list.map Assoc.row)) ∧ hget hp b2 = some (.row 2 (m.found.map Fnd.row))) ?_ ?_
  · refine mr71 rfl fun c hP hm => ?_
    unfold pc71 Mon.ro
    have hrf : rowsN 2 (m.found.map Fnd.row) := fun r hr => by obtain ⟨d, _, rfl⟩ := List.mem_map.1 hr; rfl
    refine run_seq (run_wpc _ _ _ _ _ ?_)
    simp only [hm, go_sem, ↓reduceIte]
    refine run_join (fun t => t = ⟨[(1, .ptr 0 0 0), (2, .ptr 1 0 0), (3, .ptr 2 0 0)], [(0, .var [.i m.records, .r (.ro none (m.list.map Assoc.row)), .r (.ro none (m.found.map Fnd.row))]), (1, .var [.i 0, .r .nil, .r .nil]), (2, .var [.i m.records, .sl 3 0 0, .sl 4 0 m.found.length]), (3, .row 14 []), (4, .row 2 (m.found.map Fnd.row))], 5, []⟩) (run_wpc _ _ _ _ _ ?_) ?_
    · simp only [hm, go_sem, ↓reduceIte]
      repeat' first | refine And.intro ?_ ?_ | intro _
      all_goals first
        | omega
        | exact hrf
        | (rename_i r hr; exact hrf r hr)
        | (simp only [List.length_map]; omega)
        | (refine ⟨_, rfl, ?_⟩; (refine le_ev [(3, 2), (4, 3), (2, 4)] ?_; simp only [hm, go_sem, ↓reduceIte]; first | done | rfl | exact ⟨rfl, rfl⟩))
        | (refine ⟨_, rfl, ?_⟩; (refine le_ev [(3, 3), (4, 2), (2, 4)] ?_; simp only [hm, go_sem, ↓reduceIte]; first | done | rfl | exact ⟨rfl, rfl⟩))
        | (refine ⟨_, rfl, ?_⟩; (refine le_ev [(3, 2), (4, 4), (2, 3)] ?_; simp only [hm, go_sem, ↓reduceIte]; first | done | rfl | exact ⟨rfl, rfl⟩))
        | (refine ⟨_, rfl, ?_⟩; (refine le_ev [(3, 4), (4, 2), (2, 3)] ?_; simp only [hm, go_sem, ↓reduceIte]; first | done | rfl | exact ⟨rfl, rfl⟩))
        | (refine ⟨_, rfl, ?_⟩; (refine le_ev [(3, 3), (4, 4), (2, 2)] ?_; simp only [hm, go_sem, ↓reduceIte]; first | done | rfl | exact ⟨rfl, rfl⟩))
        | (refine ⟨_, rfl, ?_⟩; (refine le_ev [(3, 4), (4, 3), (2, 2)] ?_; simp only [hm, go_sem, ↓reduceIte]; first | done | rfl | exact ⟨rfl, rfl⟩))
    rintro t rfl
    refine run_seq (run_wpc _ _ _ _ _ ?_)
    simp only [hm, go_sem, ↓reduceIte]
    refine run_exit 0 (fun t0 => t0 = ⟨[(2, .ptr 1 0 0), (3, .ptr 2 0 0)], [(1, .var [.i 0, .r .nil, .r .nil]), (2, .var [.i m.records, .sl 3 0 m.list.length, .sl 4 0 m.found.length]), (3, .row 14 (m.list.map Assoc.row)), (4, .row 2 (m.found.map Fnd.row))], 5, []⟩) ?_ ?_
    · refine lp_wpc (α := Nat) (fun i => ⟨[(1, .ptr 0 0 0), (2, .ptr 1 0 0), (3, .ptr 2 0 0), (4, .i i)], [(0, .var [.i m.records, .r (.ro none (m.list.map Assoc.row)), .r (.ro none (m.found.map Fnd.row))]), (1, .var [.i 0, .r .nil, .r .nil]), (2, .var [.i m.records, .sl 3 0 (m.list.take i).length, .sl 4 0 m.found.length]), (3, .row 14 ((m.list.take i).map Assoc.row)), (4, .row 2 (m.found.map Fnd.row))], 5, []⟩)
        (fun i => i ≤ m.list.length) (fun i => m.list.length - i) 0 (Nat.zero_le _) (by rw [List.take_zero]; simp only [List.map_nil, List.length_nil]; (refine le_ev [] ?_; simp only [hm, go_sem, ↓reduceIte]; first | done | rfl | exact ⟨rfl, rfl⟩)) ?_
      intro i hi
      unfold pc71l0
      rcases Nat.lt_or_ge i m.list.length with hil | hil
      · have hw1 : IntKind.i64.wrap ((i : Int) + 1) = ((i + 1 : Nat) : Int) := by rw [wrap64 (by omega) (by omega)]; omega
        have hg := getD_map (f := Assoc.row) hil
        have htk := take_get hil
        have hax := ha _ (List.getElem_mem hil)
        have hlt : (m.list.take i).length ≤ 1000 := by rw [List.length_take]; omega
        generalize m.list[i] = x at hg htk hax
        generalize m.list.take i = l at htk hlt
        have hrt : List.take l.length (l.map Assoc.row) = l.map Assoc.row := List.take_of_length_le (by simp)
        have hcp := s_l31Copy x (by have := hax.1.2.1; omega) (by have := hax.2.2.1; omega)
        have hux : x.ro = .agg x.cellsA := rfl
        rw [hux] at hcp
        unfold Assoc.cellsA at hcp
        simp only [hw1, hrt, Int.toNat_natCast, hg, Assoc.row, Assoc.cellsX, hm, go_sem, ↓reduceIte]
        repeat' first
          | refine And.intro ?_ ?_
          | intro _
          | (refine call_data (hP ▸ hcp) rfl rfl ?_; simp only [hw1, hrt, Int.toNat_natCast, hg, Assoc.row, Assoc.cellsX, hm, go_sem, ↓reduceIte])
        all_goals first
          | omega
          | (refine ⟨i + 1, hil, by omega, ?_⟩
             rw [htk]
             simp only [List.map_append, List.length_append, List.length_cons, List.length_nil, List.map_cons, List.map_nil, Assoc.row, Assoc.cellsX]
             (refine le_ev [] ?_; simp only [hm, go_sem, ↓reduceIte]; first | done | rfl | exact ⟨rfl, rfl⟩))
      · have : i = m.list.length := by omega
        subst this
        rw [List.take_length]
        simp only [hm, go_sem, ↓reduceIte]
        repeat' first | refine And.intro ?_ ?_ | intro _
        all_goals first
          | omega
          | (refine ⟨_, rfl, ?_⟩; (refine le_ev [] ?_; simp only [hm, go_sem, ↓reduceIte]; first | done | rfl | exact ⟨rfl, rfl⟩))
    rintro t0 rfl
    rw [if_pos rfl]
    refine run_wpc _ _ _ _ _ ?_
    simp only [hm, go_sem, ↓reduceIte]
    exact ⟨3, 4, by decide, rfl, rfl, rfl⟩
  · rintro r hp nx gs ⟨b1, b2, hne, rfl, h1, h2⟩
    refine ⟨_, _, 2, [], ⟨rfl, rfl, rfl, rfl⟩, fun c hc => ?_⟩
    unfold Mon.own
    refine le_ev [(0, b1), (1, b2)] ?_
    simp only [hc, go_sem, ↓reduceIte, h1, h2, List.mem_cons, List.not_mem_nil, or_false, not_false_eq_true, and_self]
    exact fun e => hne e.symm
theorem s_l32Note (rc code : Int) (X : List (List RV)) (F : List Fnd) (hr : 0 ≤ rc ∧ rc ≤ 1000) (hF : F.length ≤ 1000000) : Spec Try.prog 91 1 [(0, .row 2 (F.map Fnd.row))] [.agg [.i rc, .r (.ro none X), .sl 0 0 F.length], .i code]
    (fun r hp nx gs => r = .agg [.i rc, .r (.ro none X), .sl 1 0 (F.length + 1)] ∧ hp = [(1, .row 2 ((F ++ [(⟨rc - 1, code⟩ : Fnd)]).map Fnd.row))] ∧ nx = 2 ∧ gs = []) := by
  refine Spec.le (Q := fun r hp _ _ => ∃ b, r = .agg [.i rc, .r (.ro none X), .sl b 0 (F.length + 1)] ∧ hget hp b = some (.row 2 ((F ++ [(⟨rc - 1, code⟩ : Fnd)]).map Fnd.row)) ∧ b ≠ 0) ?_ ?_
  · refine mk91 rfl fun c hP hm => ?_
    unfold pc91
    have hw : IntKind.i64.wrap (rc - 1) = rc - 1 := wrap64 (by omega) (by omega)
    have hrt : List.take F.length (F.map Fnd.row) = F.map Fnd.row := List.take_of_length_le (by simp)
    simp only [hw, hrt, hm, go_sem, ↓reduceIte]
    refine ⟨by omega, _, rfl, by simp [Fnd.row], by decide⟩
  · rintro r hp nx gs ⟨b, rfl, h1, h2⟩
    refine ⟨_, _, 2, [], ⟨rfl, rfl, rfl, rfl⟩, fun c hc => ?_⟩
    refine le_ev [(1, b)] ?_
    simp only [hc, go_sem, ↓reduceIte, h1]
theorem c_l32Note {c : Cx} (hP : c.P = Try.prog) {rc code : Int} {X : List (List RV)} {F : List Fnd} (hr : 0 ≤ rc ∧ rc ≤ 1000) (hF : F.length ≤ 1000000) {s : St} {K : AV → St → Prop} (b : Nat) (hb : hget s.hp b = some (.row 2 (F.map Fnd.row)))
    (hK : K (.agg [.i rc, .r (.ro none X), .sl s.nx 0 (F.length + 1)]) ⟨s.sl, (s.nx, .row 2 ((F ++ [(⟨rc - 1, code⟩ : Fnd)]).map Fnd.row)) :: hdel s.hp b, s.nx + 1, s.gs⟩) : Call c 91 [.agg [.i rc, .r (.ro none X), .sl b 0 F.length], .i code] s K :=
  call_named1G b (hP ▸ s_l32Note rc code X F hr hF) hb rfl rfl fun r hp' nx' gs' ⟨h1, h2, h3, h4⟩ => by
    subst h1; subst h2; subst h3; subst h4
    simpa [renA, renA.renL, renH, renB, idf] using hK
end Go.Cap

/- Contracts: the reference's monitor begins to watch an association. -/
namespace Go.Cap
open Go Go.Proofs
set_option maxRecDepth 100000
set_option linter.unusedSimpArgs false
set_option linter.unusedVariables false
attribute [local irreducible] Call Run Spec Le

/-- What is known of a monitor while a draw goes on. -/
def MW (n : Nat) (m : Mon) : Prop := m.list.length ≤ 3 ∧ (∀ a ∈ m.list, AW a) ∧ m.found.length ≤ n
def MonAny (n : Nat) (k : Int) : AV → List (Nat × Blk) → Nat → List Nat → Prop := fun r hp nx gs => (∃ m : Mon, r = m.ro ∧ MW n m ∧ m.records = k) ∧ hp = [] ∧ nx = 2 ∧ gs = []
theorem noSide_SW : SW noSide := ⟨by decide, by decide, fun d hd => by cases hd⟩
theorem assocStep_AW (a : Assoc) (p : Packet) : AW (assocStep a p).1 := by
  unfold assocStep
  split
  · exact ⟨noSide_SW, noSide_SW⟩
  · rename_i h
    have ha : assocB a = true := by
      cases hb : assocB a
      · rw [hb] at h; exact absurd rfl h
      · rfl
    simp only
    split
    · exact stepChunks_ok _ _ _ _ (assocB_AW ha)
    · exact assocB_AW ha
theorem assocStep_le (a : Assoc) (p : Packet) : (assocStep a p).2.length ≤ 12 := by
  unfold assocStep
  split
  · simp
  · exact rulesTo_le _ 12
theorem s_l32Begin (m : Mon) (p : Packet) (n : Nat) (hn : n ≤ 100000) (hw : MW n m) (hr : 0 ≤ m.records ∧ m.records ≤ 61) (hp : packB p = true) :
    Spec Try.prog 94 2 [(0, .row 14 (m.list.map Assoc.row)), (1, .row 2 (m.found.map Fnd.row))] [m.own, p.ro] (MonAny (n + 20) m.records) := by
  have hpb := hp
  simp only [packB, Bool.and_eq_true, decide_eq_true_eq, List.all_eq_true, chunkB] at hpb
  have hcl : p.chunks.length ≤ 4 ∧ 1 ≤ p.chunks.length := by omega
  have has := s_specAssocStep ⟨p.fr, p.to, 0, false, noSide, noSide⟩ p ⟨Nat.zero_le _, fun d hd => by cases hd⟩ ⟨Nat.zero_le _, fun d hd => by cases hd⟩ (by omega)
  have hAWs := assocStep_AW ⟨p.fr, p.to, 0, false, noSide, noSide⟩ p
  have hlen := assocStep_le ⟨p.fr, p.to, 0, false, noSide, noSide⟩ p
  generalize assocStep ⟨p.fr, p.to, 0, false, noSide, noSide⟩ p = x at *
  obtain ⟨o, rules⟩ := x
  simp only at hAWs hlen has
  obtain ⟨m1, m2, m3⟩ := hw
  refine Spec.le (Q := fun r hp _ _ => ∃ m' : Mon, (MW (n + 20) m' ∧ m'.records = m.records) ∧ ((∃ b1 b2, b1 ≠ b2 ∧ r = .agg [.i m'.records, .sl b1 0 m'.list.length, .sl b2 0 m'.found.length] ∧ hget hp b1 = some (.row 14 (m'.list.map Assoc.row)) ∧ hget hp b2 = some (.row 2 (m'.found.map Fnd.row)))
      ∨ (∃ b2, r = .agg [.i m'.records, .r (.ro none (m'.list.map Assoc.row)), .sl b2 0 m'.found.length] ∧ hget hp b2 = some (.row 2 (m'.found.map Fnd.row))))) ?_ ?_
  · refine mr94 rfl fun c hP hm => ?_
    unfold pc94 Mon.own Packet.ro
    have hu : (Assoc.mk p.fr p.to 0 false noSide noSide).ro = .agg (Assoc.mk p.fr p.to 0 false noSide noSide).cellsA := rfl
    have hu2 : o.ro = .agg o.cellsA := rfl
    unfold Packet.ro at has
    rw [hu, hu2] at has
    unfold Assoc.cellsA noSide at has
    simp only [List.map_nil] at has
    refine run_seq (run_wpc _ _ _ _ _ ?_)
    simp only [hm, go_sem, ↓reduceIte]
    refine run_seq (run_wpc _ _ _ _ _ ?_)
    simp only [hm, go_sem, ↓reduceIte]
    refine call_denil ?_
    simp only [List.map_cons, List.map_nil, hm, go_sem, ↓reduceIte]
    refine call_dataP (hP ▸ has) rfl rfl ?_
    simp only [hm, go_sem, ↓reduceIte]
    have hg0 : (p.chunks.map Chunk.row).getD 0 [] = (p.chunks[0]'(by omega)).row := getD_map (f := Chunk.row) (i := 0) (by omega)
    generalize p.chunks[0]'(by omega) = k0 at hg0
    have hre : m.records = m.records - 1 + 1 := by omega
    refine run_wpc _ _ _ _ _ ?_
    simp only [hg0, Chunk.row, List.length_map, hm, go_sem, ↓reduceIte]
    refine ⟨by omega, ?_⟩
    refine ⟨fun hk => ?_, fun hk => ?_⟩
    · refine call_frz 0 rfl rfl (by simp only [List.length_map, go_sem, ↓reduceIte]) ?_
      simp only [take_map_len, List.drop_zero, hm, go_sem, ↓reduceIte]
      refine c_l32Note hP (by omega) (by omega) 1 rfl ?_
      simp only [hm, go_sem, ↓reduceIte]
      exact ⟨{ m with found := m.found ++ [⟨m.records - 1, 104⟩] }, ⟨⟨m1, m2, by simp only [List.length_append, List.length_cons, List.length_nil]; omega⟩, rfl⟩, .inr ⟨6, by simp, rfl⟩⟩
    intro _
    refine ⟨fun hk => ?_, fun hk => ?_⟩
    · refine run_frz 0 rfl (by first | (simp only [hm, List.length_map, go_sem, ↓reduceIte]; done) | (simp only [hm, List.length_map, go_sem, ↓reduceIte]; omega)) (by first | (simp only [hm, List.length_map, go_sem, ↓reduceIte]; done) | (simp only [hm, List.length_map, go_sem, ↓reduceIte]; omega)) ?_; simp only [hm, take_map_len, List.drop_zero, go_sem, ↓reduceIte]
      refine run_exit 1 (fun t0 => ∃ F : List Fnd, F.length ≤ n + 12 ∧ t0 = ⟨[(2, .ptr 2 0 0), (4, .ptr 4 0 0)], [(2, .var [.i m.records, .r (.ro none (m.list.map Assoc.row)), .sl 5 0 F.length]), (4, .var [.i 0, .r .nil, .r .nil]), (5, .row 2 (F.map Fnd.row))], 6, []⟩) ?_ ?_
      · refine lp_wpc (α := Nat × List Fnd) (fun y => ⟨[(2, .ptr 2 0 0), (4, .ptr 4 0 0), (6, .r (.ro none (rules.map intRow))), (7, .i y.1)], [(2, .var [.i m.records, .r (.ro none (m.list.map Assoc.row)), .sl 5 0 y.2.length]), (4, .var [.i 0, .r .nil, .r .nil]), (5, .row 2 (y.2.map Fnd.row))], 6, []⟩)
          (fun y => y.1 ≤ rules.length ∧ y.2.length ≤ n + y.1) (fun y => rules.length - y.1) (0, m.found) ⟨Nat.zero_le _, by simp only; omega⟩ (by (refine le_ev [(5, 1)] ?_; simp only [hm, go_sem, ↓reduceIte]; first | done | rfl | exact ⟨rfl, rfl⟩)) ?_
        rintro ⟨i, F⟩ ⟨h1, h2⟩
        simp only at h1 h2
        unfold pc94l0
        rcases Nat.lt_or_ge i rules.length with hil | hil
        · have hw1 : IntKind.i64.wrap ((i : Int) + 1) = ((i + 1 : Nat) : Int) := by rw [wrap64 (by omega) (by omega)]; omega
          have hg := getD_map (f := intRow) hil
          simp only [hw1, Int.toNat_natCast, hg, intRow, hm, go_sem, ↓reduceIte]
          repeat' first
            | refine And.intro ?_ ?_
            | intro _
            | (refine c_l32Note hP (by omega) (by omega) 5 rfl ?_; simp only [hw1, Int.toNat_natCast, hg, intRow, hm, go_sem, ↓reduceIte])
          all_goals first
            | omega
            | (refine ⟨(i + 1, F ++ [⟨m.records - 1, rules[i]⟩]), ⟨hil, by simp only [List.length_append, List.length_cons, List.length_nil]; omega⟩, by simp only; omega, ?_⟩
               simp only [List.length_append, List.length_cons, List.length_nil]
               (refine le_ev [(5, 6)] ?_; simp only [hm, go_sem, ↓reduceIte]; first | done | rfl | exact ⟨rfl, rfl⟩))
        · have : i = rules.length := by omega
          subst this
          simp only [hm, go_sem, ↓reduceIte]
          repeat' first | refine And.intro ?_ ?_ | intro _
          all_goals first
            | omega
            | (refine ⟨_, ⟨F, by omega, rfl⟩, ?_⟩; (refine le_ev [] ?_; simp only [hm, go_sem, ↓reduceIte]; first | done | rfl | exact ⟨rfl, rfl⟩))
      rintro t0 ⟨F, hF, rfl⟩
      rw [if_pos rfl]
      simp only [hm, go_sem, ↓reduceIte]
      exact ⟨{ m with found := F }, ⟨⟨m1, m2, by simp only; omega⟩, rfl⟩, .inr ⟨5, rfl, rfl⟩⟩
    intro _
    refine ⟨fun hk => ?_, fun hk => ?_⟩
    · refine call_frz 0 rfl rfl (by simp only [List.length_map, go_sem, ↓reduceIte]) ?_
      simp only [take_map_len, List.drop_zero, hm, go_sem, ↓reduceIte]
      refine c_l32Note hP (by omega) (by omega) 1 rfl ?_
      simp only [hm, go_sem, ↓reduceIte]
      exact ⟨{ m with found := m.found ++ [⟨m.records - 1, 105⟩] }, ⟨⟨m1, m2, by simp only [List.length_append, List.length_cons, List.length_nil]; omega⟩, rfl⟩, .inr ⟨6, by simp, rfl⟩⟩
    · have hrt : List.take m.list.length (m.list.map Assoc.row) = m.list.map Assoc.row := List.take_of_length_le (by simp)
      simp only [hrt, hm, go_sem, ↓reduceIte]
      repeat' first | refine And.intro ?_ ?_ | intro _
      all_goals first
        | omega
        | (refine ⟨{ m with list := m.list ++ [o] }, ⟨⟨by simp only [List.length_append, List.length_cons, List.length_nil]; omega, fun a ha => ?_, by simp only; omega⟩, rfl⟩, .inl ⟨7, 1, by decide, by simp, by simp [Assoc.row, Assoc.cellsX], by simp⟩⟩
           rcases List.mem_append.1 ha with ha | ha
           · exact m2 a ha
           · simp only [List.mem_singleton] at ha; subst ha; exact hAWs)
  · rintro r hp nx gs ⟨m', ⟨hw, hk⟩, h⟩
    refine ⟨m'.ro, [], 2, [], ⟨⟨m', rfl, hw, hk⟩, rfl, rfl, rfl⟩, fun c hc => ?_⟩
    rcases h with ⟨b1, b2, hne, rfl, h1, h2⟩ | ⟨b2, rfl, h2⟩
    · refine Le.trans (t := ⟨[(0, .agg [.i m'.records, .sl 2 0 m'.list.length, .sl 3 0 m'.found.length])], [(2, .row 14 (m'.list.map Assoc.row)), (3, .row 2 (m'.found.map Fnd.row))], 4, []⟩) (le_ev [(2, b1), (3, b2)] ?_) ?_
      · simp only [hc, go_sem, ↓reduceIte, h1, h2, List.mem_cons, List.not_mem_nil, or_false, not_false_eq_true, and_self]
        exact fun e => hne e.symm
      refine Le.trans (le_frz 2 rfl (by simp only [List.length_map, go_sem, ↓reduceIte]) (by simp only [go_sem, ↓reduceIte])) ?_
      simp only [take_map_len, List.drop_zero, go_sem, ↓reduceIte]
      refine Le.trans (le_frz 3 rfl (by simp only [List.length_map, go_sem, ↓reduceIte]) (by simp only [go_sem, ↓reduceIte])) ?_
      simp only [take_map_len, List.drop_zero, go_sem, ↓reduceIte]
      exact le_ev [] (by simp only [hc, Mon.ro, go_sem, ↓reduceIte])
    · refine Le.trans (t := ⟨[(0, .agg [.i m'.records, .r (.ro none (m'.list.map Assoc.row)), .sl 3 0 m'.found.length])], [(3, .row 2 (m'.found.map Fnd.row))], 4, []⟩) (le_ev [(3, b2)] (by simp only [hc, go_sem, ↓reduceIte, h2])) ?_
      refine Le.trans (le_frz 3 rfl (by simp only [List.length_map, go_sem, ↓reduceIte]) (by simp only [go_sem, ↓reduceIte])) ?_
      simp only [take_map_len, List.drop_zero, go_sem, ↓reduceIte]
      exact le_ev [] (by simp only [hc, Mon.ro, go_sem, ↓reduceIte])
end Go.Cap
