import Derived.Test.YtcjbfoeiegecmaaR2
import Derived.Test.YtcjbfoeiegecmaaV2
/- Contracts: drawn texts and parts. -/
namespace Go.Cap
open Go Go.Proofs
set_option maxRecDepth 100000
set_option linter.unusedSimpArgs false
set_option linter.unusedVariables false
attribute [local irreducible] Call Run Spec Le

theorem s_l6ManyC (ch : UInt8) (n : Int) (hn : n ≤ 128) : Spec Try.prog 57 0 [] [.st [ch], .i n] (fun r _ _ _ => ∃ s, r = .st s ∧ s.length ≤ 128) := by
  refine mk57 rfl fun c hP hm => ?_
  unfold pc57
  simp only [go_sem, ↓reduceIte]
  refine lp_wpc (α := List UInt8 × Int × List UInt8) (fun y => ⟨[(0, .st y.1), (1, .i y.2.1), (5, .st y.2.2)], [], 0, []⟩) (fun y => ((y.1.length : Int) * (if 0 < y.2.1 then y.2.1 else 0) ≤ 128 ∧ 1 ≤ y.1.length ∧ y.1.length ≤ 256) ∧ (y.2.2.length : Int) + (y.1.length : Int) * (if 0 < y.2.1 then y.2.1 else 0) ≤ 128) (fun y => y.2.1.toNat) ([ch], n, [])
    ?_ (Le.refl _) ?_
  · simp; split <;> omega
  · rintro ⟨s, k, o⟩ ⟨⟨h1, h2, h3⟩, h4⟩
    simp only at h1 h2 h3 h4
    unfold pc57l0
    simp only [go_sem, ↓reduceIte]
    have hh : ∀ k : Int, 0 < k → 2 * k.tdiv 2 ≤ k ∧ 0 ≤ k.tdiv 2 ∧ k.tdiv 2 < k ∧ (k.tmod 2 = 1 → 2 * k.tdiv 2 + 1 = k) := fun k hk => by
      rw [Int.tdiv_eq_ediv_of_nonneg (by omega), Int.tmod_eq_emod_of_nonneg (by omega)]; omega
    refine ⟨fun hk => ?_, fun hk => ⟨o, rfl, by rw [if_neg (by omega)] at h4; omega⟩⟩
    obtain ⟨k1, k2, k3, k4⟩ := hh k hk
    rw [if_pos hk] at h1 h4
    have hk64 : k ≤ 128 := by
      have := Int.mul_le_mul_of_nonneg_right (a := 1) (b := (s.length : Int)) (c := k) (by omega) (by omega)
      omega
    have hs2 : ((s.length + s.length : Nat) : Int) * k.tdiv 2 ≤ (s.length : Int) * k := by
      have := Int.mul_le_mul_of_nonneg_left (a := 2 * k.tdiv 2) (b := k) (c := (s.length : Int)) k1 (by omega)
      have e : ((s.length + s.length : Nat) : Int) * k.tdiv 2 = (s.length : Int) * (2 * k.tdiv 2) := by
        rw [show ((s.length + s.length : Nat) : Int) = (s.length : Int) * 2 by omega, Int.mul_assoc]
      omega
    have hs1 : (s.length : Int) ≤ (s.length : Int) * k := by
      have := Int.mul_le_mul_of_nonneg_left (a := 1) (b := k) (c := (s.length : Int)) (by omega) (by omega)
      omega
    rw [wrap64 (by omega) (by omega)]
    refine ⟨fun hodd => ⟨by omega, by omega, (s ++ s, k.tdiv 2, o ++ s), ⟨⟨?_, ?_⟩, ?_⟩, ?_, Le.refl _⟩, fun hev => ⟨by omega, (s ++ s, k.tdiv 2, o), ⟨⟨?_, ?_⟩, ?_⟩, ?_, Le.refl _⟩⟩
    all_goals simp only [List.length_append]
    · split <;> omega
    · omega
    · have e := k4 hodd
      have e2 : ((s.length + s.length : Nat) : Int) * k.tdiv 2 + s.length = (s.length : Int) * k := by
        rw [show ((s.length + s.length : Nat) : Int) = (s.length : Int) * 2 by omega, Int.mul_assoc]
        calc (s.length : Int) * (2 * k.tdiv 2) + s.length = (s.length : Int) * (2 * k.tdiv 2 + 1) := by rw [Int.mul_add, Int.mul_one]
          _ = _ := by rw [e]
      split <;> omega
    · omega
    · split <;> omega
    · omega
    · split <;> omega
    · omega
@[go_sem] theorem frzPH_rd (b n0 j : Nat) (code : List UInt8) (p : Int) (l : List (Nat × Blk)) : frzPH b n0 ((j, rdB code p) :: l) = (True ∧ frzPH b n0 l) := by
  simp only [rdB, frzPH, frzPB, frzP.frzPL, frzP, and_self]
@[go_sem] theorem frzH_rd (b : Nat) (L : List (List RV)) (j : Nat) (code : List UInt8) (p : Int) (l : List (Nat × Blk)) : frzH b L ((j, rdB code p) :: l) = (j, rdB code p) :: frzH b L l := (rfl)
/-- A text behind some draws. -/
def DrawS (code : List UInt8) (p : Int) (k : Int) (m : Nat) (r : AV) (B : Blk) : Prop := ∃ s p', r = .st s ∧ B = rdB code p' ∧ p ≤ p' ∧ p' ≤ p + k ∧ s.length ≤ m
theorem c_drawS {c : Cx} {f : Nat} {code : List UInt8} {p k : Int} {m : Nat} {s : St} {K : AV → St → Prop} {b : Nat} {as0 args : List AV} (hs : Spec c.P f 1 [(0, rdB code p)] as0 (Named (DrawS code p k m))) (hb : hget s.hp b = some (rdB code p)) (ha : args = as0.map (renA (idf [b] s.nx)))
    (h : ∀ v p', p ≤ p' → p' ≤ p + k → v.length ≤ m → K (.st v) ⟨s.sl, (b, rdB code p') :: hdel s.hp b, s.nx, s.gs⟩) : Call c f args s K :=
  call_named b hs hb rfl ha (fun r B ⟨v, p', h1, h2, _⟩ => by subst h1; subst h2; exact ⟨rfl, rfl⟩) fun r B ⟨v, p', h1, h2, h3, h4, h5⟩ => by subst h1; subst h2; exact h v p' h3 h4 h5
theorem s_l91Bytes (code : List UInt8) (p : Int) (n : Nat) (hn : n ≤ 100) (hp : 0 ≤ p ∧ p ≤ 990000) (hc : code.length ≤ 2000) : Spec Try.prog 56 1 [(0, rdB code p)] [.ptr 0 0 0, .i n] (Named (DrawS code p (2 * n + 1) n)) := by
  refine Spec.named (mk56 rfl fun c hP hm => ?_)
  unfold pc56
  simp only [hm, go_sem, ↓reduceIte]
  rw [wrap64 (x := (n : Int) + 1) (by omega) (by omega)]
  refine c_pick hP (by rfl) (by omega) hc fun k hk => ?_
  simp only [hm, go_sem, ↓reduceIte]
  have hk' : 0 ≤ k ∧ k ≤ n := by unfold Below at hk; omega
  refine run_exit 0 (fun t0 => ∃ (L : List (List RV)) (q : Int), t0 = ⟨[(5, .sl 1 0 L.length)], [(0, rdB code q), (1, .row 1 L)], 2, []⟩ ∧ (∀ r ∈ L, isByte r) ∧ (L.length : Int) ≤ n ∧ p ≤ q ∧ q ≤ p + (2 * n + 1)) ?_ ?_
  rotate_left
  · rintro t0 ⟨L, q, rfl, hL, hl, hq⟩
    simp only [List.take_length, List.drop_zero, hm, go_sem, ↓reduceIte]
    exact ⟨hL, _, rfl, rfl, L.map byteOf, q, rfl, rfl, hq.1, hq.2, by rw [List.length_map]; omega⟩
  refine lp_wpc (α := Nat × List (List RV) × Int) (fun y => ⟨[(0, .ptr 0 0 0), (5, .sl 1 0 y.2.1.length), (6, .i k), (7, .i y.1)], [(0, rdB code y.2.2), (1, .row 1 y.2.1)], 2, []⟩)
    (fun y => (y.1 : Int) ≤ k ∧ y.2.1.length = y.1 ∧ (∀ r ∈ y.2.1, isByte r) ∧ p ≤ y.2.2 ∧ y.2.2 = p + 1 + 2 * y.1) (fun y => (k - y.1).toNat) (0, [], p + 1) ⟨hk'.1, rfl, fun r h => (List.not_mem_nil h).elim, by show p ≤ p + 1; omega, by show p + 1 = p + 1 + 2 * ((0 : Nat) : Int); omega⟩ (by (refine le_ev [] ?_; simp only [hm, go_sem, ↓reduceIte]; first | done | rfl | exact ⟨rfl, rfl⟩)) ?_
  rintro ⟨i, L, q⟩ ⟨hi, hl, hL, hq, hq2⟩
  simp only at hi hl hL hq hq2
  unfold pc56l0
  simp only [hm, go_sem, ↓reduceIte]
  refine ⟨fun hlt => ?_, fun hge => ⟨_, ⟨L, q, rfl, hL, by omega, hq, by omega⟩, by (refine le_ev [] ?_; simp only [hm, go_sem, ↓reduceIte]; first | done | rfl | exact ⟨rfl, rfl⟩)⟩⟩
  refine c_pick hP (by rfl) (by omega) hc fun u1 hu1 => ?_
  simp only [hm, go_sem, ↓reduceIte]
  refine c_pick hP (by rfl) (by omega) hc fun u2 hu2 => ?_
  simp only [hm, go_sem, ↓reduceIte]
  rw [wrap64 (x := (i : Int) + 1) (by omega) (by omega), List.take_of_length_le (by omega)]
  refine ⟨by omega, (i + 1, L ++ [[.n .u8 (IntKind.u8.wrap (IntKind.i64.wrap (u1 * u2)))]], q + 1 + 1), ⟨by simp only; omega, by simp only [List.length_append, List.length_singleton]; omega, fun r hr => ?_, by simp only; omega, by simp only; omega⟩, by simp only; omega, ?_⟩
  · rcases List.mem_append.1 hr with hr | hr
    · exact hL r hr
    · simp only [List.mem_singleton] at hr; subst hr; exact ⟨_, rfl⟩
  · simp only [List.length_append, List.length_singleton]
    (refine le_ev [] ?_; simp only [hm, go_sem, ↓reduceIte]; first | done | rfl | exact ⟨rfl, rfl⟩)
/-- A part behind some draws. -/
def DrawD (code : List UInt8) (p : Int) (k : Int) (r : AV) (B : Blk) : Prop := ∃ d : Data, ∃ p', r = d.av ∧ B = rdB code p' ∧ p ≤ p' ∧ p' ≤ p + k ∧ d.text.length ≤ 200
theorem c_drawD {c : Cx} {f : Nat} {code : List UInt8} {p k : Int} {s : St} {K : AV → St → Prop} {b : Nat} (hs : Spec c.P f 1 [(0, rdB code p)] [.ptr 0 0 0] (Named (DrawD code p k))) (hb : hget s.hp b = some (rdB code p))
    (h : ∀ (d : Data) p', p ≤ p' → p' ≤ p + k → d.text.length ≤ 200 → K d.av ⟨s.sl, (b, rdB code p') :: hdel s.hp b, s.nx, s.gs⟩) : Call c f [.ptr b 0 0] s K :=
  call_named b hs hb rfl rfl (fun r B ⟨v, p', h1, h2, _⟩ => by subst h1; subst h2; exact ⟨rfl, rfl⟩) fun r B ⟨v, p', h1, h2, h3, h4, h5⟩ => by subst h1; subst h2; exact h v p' h3 h4 h5
theorem s_l91Part (code : List UInt8) (p : Int) (hp : 0 ≤ p ∧ p ≤ 980000) (hc : code.length ≤ 2000) : Spec Try.prog 47 1 [(0, rdB code p)] [.ptr 0 0 0] (Named (DrawD code p 50)) := by
  refine Spec.named (mk47 rfl fun c hP hm => ?_)
  unfold pc47
  simp only [hm, go_sem, ↓reduceIte]
  refine c_draw (hP ▸ s_l91Good code p (by omega) hc) rfl fun v1 p1 h1 h2 h3 h4 => ?_
  simp only [hm, go_sem, ↓reduceIte]
  refine c_pick hP (by rfl) (by omega) hc fun v2 hv2 => ?_
  simp only [hm, go_sem, ↓reduceIte]
  refine c_pick hP (by rfl) (by omega) hc fun v3 hv3 => ?_
  simp only [hm, go_sem, ↓reduceIte]
  refine c_drawS (hP ▸ s_l91Bytes code (p1 + 1 + 1) 6 (by omega) (by omega) hc) rfl rfl fun tx p2 g1 g2 g3 => ?_
  simp only [hm, go_sem, ↓reduceIte]
  refine ⟨by omega, ?_⟩
  refine c_pick hP (by rfl) (by omega) hc fun v4 hv4 => ?_
  simp only [hm, go_sem, ↓reduceIte]
  refine c_pick hP (by rfl) (by omega) hc fun v5 hv5 => ?_
  simp only [hm, go_sem, ↓reduceIte]
  refine c_pick hP (by rfl) (by omega) hc fun v6 hv6 => ?_
  simp only [hm, go_sem, ↓reduceIte]
  refine c_pick hP (by rfl) (by omega) hc fun u hu => ?_
  simp only [hm, go_sem, ↓reduceIte]
  have fin : ∀ (d : Data) (q : Int), p ≤ q → q ≤ p + 50 → d.text.length ≤ 200 → DrawD code p 50 (.agg [.i d.tsn, .i d.stream, .i d.ssn, .bo d.first, .bo d.last, .bo d.loose, .st d.text]) (rdB code q) := fun d q a1 a2 a3 => ⟨d, q, rfl, rfl, a1, a2, a3⟩
  have ht : (tx ++ [116]).length ≤ 200 := by simp; omega
  refine ⟨fun _ => ?_, fun _ => ⟨fun _ => ?_, fun _ => ⟨fun _ => ?_, fun _ => ⟨fun _ => ?_, fun _ => ⟨fun _ => ?_, fun _ => ?_⟩⟩⟩⟩⟩
  · refine c_pick hP (by rfl) (by omega) hc fun w hw => ?_
    simp only [hm, go_sem, ↓reduceIte]
    have e : IntKind.i64.wrap (19 + w) = 19 + w := wrap64 (by unfold Below at hw; omega) (by unfold Below at hw; omega)
    rw [e]
    refine call_flatQ (hP ▸ s_l6ManyC 121 (19 + w) (by unfold Below at hw; omega)) (vws_self _ _ rfl) ?_
    rintro r ⟨s, rfl, hs⟩
    refine ⟨rfl, ?_⟩
    simp only [hm, go_sem, ↓reduceIte]
    exact ⟨_, rfl, rfl, fin ⟨v1, v2, v3, v4 == 0, v5 == 0, v6 == 0, s⟩ (p2 + 1 + 1 + 1 + 1 + 1) (by omega) (by omega) (Nat.le_trans hs (by decide))⟩
  · exact ⟨_, rfl, rfl, fin ⟨v1, v2, v3, v4 == 0, v5 == 0, v6 == 0, []⟩ (p2 + 1 + 1 + 1 + 1) (by omega) (by omega) (by simp)⟩
  · refine c_draw (hP ▸ s_l91Word code (p2 + 1 + 1 + 1 + 1) (by omega) hc) rfl fun w q a1 a2 a3 a4 => ?_
    simp only [hm, go_sem, ↓reduceIte]
    exact ⟨_, rfl, rfl, fin ⟨w, v2, v3, v4 == 0, v5 == 0, v6 == 0, tx ++ [116]⟩ (q) (by omega) (by omega) (ht)⟩
  · refine c_draw (hP ▸ s_l91Word code (p2 + 1 + 1 + 1 + 1) (by omega) hc) rfl fun w q a1 a2 a3 a4 => ?_
    simp only [hm, go_sem, ↓reduceIte]
    exact ⟨_, rfl, rfl, fin ⟨v1, w, v3, v4 == 0, v5 == 0, v6 == 0, tx ++ [116]⟩ (q) (by omega) (by omega) (ht)⟩
  · refine c_draw (hP ▸ s_l91Word code (p2 + 1 + 1 + 1 + 1) (by omega) hc) rfl fun w q a1 a2 a3 a4 => ?_
    simp only [hm, go_sem, ↓reduceIte]
    exact ⟨_, rfl, rfl, fin ⟨v1, v2, w, v4 == 0, v5 == 0, v6 == 0, tx ++ [116]⟩ (q) (by omega) (by omega) (ht)⟩
  · exact ⟨_, rfl, rfl, fin ⟨v1, v2, v3, v4 == 0, v5 == 0, v6 == 0, tx ++ [116]⟩ (p2 + 1 + 1 + 1 + 1) (by omega) (by omega) ht⟩
end Go.Cap
