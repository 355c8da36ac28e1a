import Derived.Test.YtcjbfoeiegecmaaR1
import Derived.Test.YtcjbfoeiegecmaaT1
/- Contracts: a talk is drawn. -/
namespace Go.Cap
open Go Go.Proofs
set_option maxRecDepth 100000
set_option linter.unusedSimpArgs false
set_option linter.unusedVariables false
attribute [local irreducible] Call Run Spec Le

def wordRow (s : List UInt8) : List RV := [.s s]
/-- The same, where the list is the caller's own. -/
theorem s_of2 (code : List UInt8) (p : Int) (l : List (List UInt8)) (hp : 0 ≤ p ∧ p ≤ 999990) (hc : code.length ≤ 2000) (hl : 0 < l.length) (hl2 : l.length ≤ 1000) :
    Spec Try.prog 52 2 [(0, rdB code p), (1, .row 1 (l.map wordRow))] [.ptr 0 0 0, .sl 1 0 l.length] (Named2 fun r B B1 => B = rdB code (p + 1) ∧ B1 = .row 1 (l.map wordRow) ∧ ∃ s ∈ l, r = .st s) := by
  refine Spec.named2 (mk52 rfl fun c hP hm => ?_)
  unfold pc52
  simp only [go_sem, ↓reduceIte]
  intro _
  refine c_pick hP (by rfl) (by omega) hc fun v hv => ?_
  have hv' : 0 ≤ v ∧ v < l.length := by unfold Below at hv; omega
  have hvn : v.toNat < l.length := by omega
  simp only [go_sem, ↓reduceIte]
  simp only [getD_map hvn, wordRow, go_sem, ↓reduceIte]
  exact ⟨hv', hvn, _, _, rfl, rfl, rfl, rfl, rfl, rfl, _, List.getElem_mem hvn, rfl⟩

theorem av_ren (t : Talk) (n : Nat) (f g : Nat → Nat) (h : f 1 = g 1) : renA f (t.av (.sl 1 0 n)) = renA g (t.av (.sl 1 0 n)) := by simp only [Talk.av, go_sem, h]

/-- A valid talk behind some draws. -/
def DrawTV (code : List UInt8) (p : Int) (k : Int) (r : AV) (B : Blk) (sz : Nat) (L : List (List RV)) : Prop := ∃ t : Talk, ∃ p', r = t.av (.sl 1 0 t.says.length) ∧ B = rdB code p' ∧ sz = 4 ∧ L = t.says.map Say.row ∧ p ≤ p' ∧ p' ≤ p + k ∧ talkB t = true
theorem s_l92TalkV (code : List UInt8) (p : Int) (hp : 0 ≤ p ∧ p ≤ 990000) (hc : code.length ≤ 2000) : Spec Try.prog 41 1 [(0, rdB code p)] [.ptr 0 0 0] (NamedNew (DrawTV code p 100)) := by
  refine Spec.namedNew (mk41 rfl fun c hP hm => ?_)
  unfold pc41
  simp only [go_sem, ↓reduceIte]
  refine c_pick hP (by rfl) (by omega) hc fun v1 hv1 => ?_
  simp only [go_sem, ↓reduceIte]
  refine c_pick hP (by rfl) (by omega) hc fun v2 hv2 => ?_
  simp only [go_sem, ↓reduceIte]
  refine c_pick hP (by rfl) (by omega) hc fun v3 hv3 => ?_
  simp only [go_sem, ↓reduceIte]
  refine c_pick hP (by rfl) (by omega) hc fun v4 hv4 => ?_
  simp only [go_sem, ↓reduceIte]
  refine c_draw (hP ▸ s_l91Good code (p + 1 + 1 + 1 + 1) (by omega) hc) rfl fun v5 p5 h51 h52 h53 h54 => ?_
  simp only [go_sem, ↓reduceIte]
  refine c_pick hP (by rfl) (by omega) hc fun v6 hv6 => ?_
  simp only [go_sem, ↓reduceIte]
  refine c_pick hP (by rfl) (by omega) hc fun v7 hv7 => ?_
  simp only [go_sem, ↓reduceIte]
  refine c_draw (hP ▸ s_l91Good code (p5 + 1 + 1) (by omega) hc) rfl fun v8 p8 h81 h82 h83 h84 => ?_
  simp only [go_sem, ↓reduceIte]
  refine c_pick hP (by rfl) (by omega) hc fun v9 hv9 => ?_
  simp only [go_sem, ↓reduceIte]
  refine c_pick hP (by rfl) (by omega) hc fun n hn => ?_
  simp only [go_sem, ↓reduceIte]
  have hn' : 0 ≤ n ∧ n ≤ 4 := by unfold Below at hn; omega
  have w1 : IntKind.i64.wrap (1 + v1) = 1 + v1 := wrap64 (by unfold Below at hv1; omega) (by unfold Below at hv1; omega)
  have w2 : IntKind.i64.wrap (6 + v2) = 6 + v2 := wrap64 (by unfold Below at hv2; omega) (by unfold Below at hv2; omega)
  have w3 : IntKind.i64.wrap (1 + v3) = 1 + v3 := wrap64 (by unfold Below at hv3; omega) (by unfold Below at hv3; omega)
  have w4 : IntKind.i64.wrap (1 + v4) = 1 + v4 := wrap64 (by unfold Below at hv4; omega) (by unfold Below at hv4; omega)
  have w6 : IntKind.i64.wrap (100 + v6) = 100 + v6 := wrap64 (by unfold Below at hv6; omega) (by unfold Below at hv6; omega)
  have w7 : IntKind.i64.wrap (1 + v7) = 1 + v7 := wrap64 (by unfold Below at hv7; omega) (by unfold Below at hv7; omega)
  have w9 : IntKind.i64.wrap (2 + v9) = 2 + v9 := wrap64 (by unfold Below at hv9; omega) (by unfold Below at hv9; omega)
  rw [w1, w2, w3, w4, w6, w7, w9]
  have h0 : talkB ⟨1 + v1, 6 + v2, ⟨1 + v3, 1000, 1 + v4, v5⟩, ⟨100 + v6, 1000, 1 + v7, v8⟩, 2 + v9, []⟩ = true := by
    unfold Below at hv1 hv2 hv3 hv4 hv6 hv7 hv9
    simp only [talkB, talkHead, talkLoop, initB, serialB, inB, Bool.and_eq_true, decide_eq_true_eq, Bool.not_eq_true', beq_eq_false_iff_ne, ne_eq, List.length_nil]
    omega
  generalize 1 + v1 = f0 at h0 ⊢
  generalize 6 + v2 = f1 at h0 ⊢
  generalize 1 + v3 = f2 at h0 ⊢
  generalize 1 + v4 = f3 at h0 ⊢
  generalize 100 + v6 = f4 at h0 ⊢
  generalize 1 + v7 = f5 at h0 ⊢
  generalize 2 + v9 = f6 at h0 ⊢
  refine lp_wpc (α := Nat × List Say × Int) (fun y => ⟨[(0, .ptr 0 0 0), (2, .ptr 1 0 0), (3, .ptr 3 0 0), (4, .i n), (5, .i y.1)],
      [(0, rdB code y.2.2), (3, .var [.i f0, .i f1, .i f2, .i 1000, .i f3, .i v5, .i f4, .i 1000, .i f5, .i v8, .i f6, .sl 2 0 y.2.1.length]), (2, .row 4 (y.2.1.map Say.row)),
       (1, .var [.i 0, .i 0, .i 0, .i 0, .i 0, .i 0, .i 0, .i 0, .i 0, .i 0, .i 0, .r .nil])], 4, []⟩)
    (fun y => (y.1 : Int) ≤ n ∧ y.2.1.length ≤ y.1 ∧ (∀ s ∈ y.2.1, s.text.length ≤ 1000) ∧ (p ≤ y.2.2 ∧ y.2.2 ≤ p + 20 + 10 * y.1) ∧ talkB ⟨f0, f1, ⟨f2, 1000, f3, v5⟩, ⟨f4, 1000, f5, v8⟩, f6, y.2.1⟩ = true) (fun y => (n - y.1).toNat) (0, [], p8 + 1 + 1)
    ⟨hn'.1, Nat.le_refl _, fun s hs => (by cases hs), ⟨by show p ≤ p8 + 1 + 1; omega, by show p8 + 1 + 1 ≤ p + 20 + 10 * ((0 : Nat) : Int); omega⟩, h0⟩ (Le.refl _) ?_
  rintro ⟨i, says, q⟩ ⟨hi, hl, hx, ⟨hq1, hq2⟩, hV⟩
  simp only at hi hl hx hq1 hq2 hV
  unfold pc41l0
  simp only [go_sem, ↓reduceIte]
  refine ⟨fun hlt => ?_, fun hge => ?_⟩
  · refine call_named2 0 4 (hP ▸ s_of2 code q [[104, 101, 108, 108, 111], [120], [116, 111, 32, 116, 104, 101, 32, 111, 116, 104, 101, 114, 32, 115, 105, 100, 101], [97, 98], [102, 111, 117, 114], [48, 49, 50, 51, 52, 53, 54, 55, 56, 57]] (by omega) hc (by decide) (by decide))
      (by decide) rfl rfl rfl rfl rfl (fun r B B1 ⟨h1, h2, s, _, h3⟩ => by subst h1; subst h2; subst h3; exact ⟨rfl, rfl, rfl⟩) ?_
    rintro r B B1 ⟨rfl, rfl, w, hw, rfl⟩
    have hwl : w.length ≤ 17 := by
      simp only [List.mem_cons, List.not_mem_nil, or_false] at hw
      rcases hw with rfl | rfl | rfl | rfl | rfl | rfl <;> decide
    simp only [go_sem, ↓reduceIte]
    refine c_pick hP (by rfl) (by omega) hc fun u1 hu1 => ?_
    simp only [go_sem, ↓reduceIte]
    refine c_pick hP (by rfl) (by omega) hc fun u2 hu2 => ?_
    simp only [go_sem, ↓reduceIte]
    refine ⟨fun hb => ?_, fun hb => ?_⟩
    all_goals
      refine c_pick hP (by rfl) (by omega) hc fun u3 hu3 => ?_
      simp only [hm, go_sem, ↓reduceIte]
      refine ⟨by omega, ?_⟩
      have hrows : List.take says.length (List.map Say.row says) ++ [[RV.b (u1 == 0), RV.n IntKind.i64 u3, RV.b (u2 == 0), RV.s w]] = (says ++ [(⟨u1 == 0, u3, u2 == 0, w⟩ : Say)]).map Say.row := by
        rw [List.take_of_length_le (by simp)]; simp [Say.row]
      have hlen : says.length + 1 = (says ++ [(⟨u1 == 0, u3, u2 == 0, w⟩ : Say)]).length := by simp
      have hx2 : ∀ s ∈ says ++ [(⟨u1 == 0, u3, u2 == 0, w⟩ : Say)], s.text.length ≤ 1000 := fun s hs => by
        rcases List.mem_append.1 hs with hs | hs
        · exact hx s hs
        · simp only [List.mem_singleton] at hs; subst hs; simp only; omega
      rw [hrows]
      refine call_flat (hP ▸ s_specTalkValid (⟨f0, f1, ⟨f2, 1000, f3, v5⟩, ⟨f4, 1000, f5, v8⟩, f6, says ++ [(⟨u1 == 0, u3, u2 == 0, w⟩ : Say)]⟩ : Talk) (by simp only; rw [← hlen]; omega) (fun s hs => by have := hx2 s hs; omega)) rfl (.cons (vw_talk (t := (⟨f0, f1, ⟨f2, 1000, f3, v5⟩, ⟨f4, 1000, f5, v8⟩, f6, says ++ [(⟨u1 == 0, u3, u2 == 0, w⟩ : Say)]⟩ : Talk)) rfl hlen) .nil) ?_
      simp only [go_sem, ↓reduceIte]
      refine ⟨fun hv => ?_, fun hv => ?_⟩
      · intro _
        have e : IntKind.i64.wrap (((says.length + 1 : Nat) : Int) - 1) = says.length := by rw [wrap64 (by omega) (by omega)]; omega
        rw [e, wrap64 (x := (i : Int) + 1) (by omega) (by omega)]
        refine ⟨⟨by omega, by omega⟩, (i + 1, says, q + 1 + 1 + 1 + 1), ⟨by simp only; omega, by simp only; omega, hx, ⟨by simp only; omega, by simp only; omega⟩, hV⟩, by simp only; omega, Le.trans (le_prefix 2 says.length rfl (by simp)) (le_ev [] ?_)⟩
        simp only [hm, go_sem, ↓reduceIte, Int.toNat_natCast, Nat.sub_zero, List.map_append, Nat.reduceLeDiff]
        simp
      · rw [wrap64 (x := (i : Int) + 1) (by omega) (by omega)]
        refine ⟨(i + 1, says ++ [(⟨u1 == 0, u3, u2 == 0, w⟩ : Say)], q + 1 + 1 + 1 + 1), ⟨by simp only; omega, by simp only; rw [← hlen]; omega, hx2, ⟨by simp only; omega, by simp only; omega⟩, hv⟩, by simp only; omega, le_ev [] ?_⟩
        simp only [hm, go_sem, ↓reduceIte, Nat.reduceLeDiff]
        simp
  · exact ⟨_, _, _, 2, (⟨f0, f1, ⟨f2, 1000, f3, v5⟩, ⟨f4, 1000, f5, v8⟩, f6, says⟩ : Talk).av (.sl 1 0 says.length), rfl, rfl, by decide, rfl, ⟨rfl, av_ren _ _⟩, ⟨f0, f1, ⟨f2, 1000, f3, v5⟩, ⟨f4, 1000, f5, v8⟩, f6, says⟩, q, rfl, rfl, rfl, rfl, by omega, by omega, hV⟩
end Go.Cap
