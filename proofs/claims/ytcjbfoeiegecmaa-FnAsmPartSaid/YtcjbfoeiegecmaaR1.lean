import Derived.Test.YtcjbfoeiegecmaaPc
import Derived.Test.YtcjbfoeiegecmaaEngC
import Derived.Test.YtcjbfoeiegecmaaA4
/- Contracts: the reader of a code, and small draws. -/
namespace Go.Cap
open Go Go.Proofs
set_option maxRecDepth 100000
set_option linter.unusedSimpArgs false
set_option linter.unusedVariables false
attribute [local irreducible] Call Run Spec Le

def byteRow (b : UInt8) : List RV := [.n .u8 b.toNat]
def rdB (code : List UInt8) (p : Int) : Blk := .var [.r (.ro none (code.map byteRow)), .i p]

@[go_sem] theorem renB_rd (f : Nat → Nat) (code : List UInt8) (p : Int) : renB f (rdB code p) = rdB code p := (rfl)
@[go_sem] theorem killH_rd (b j : Nat) (code : List UInt8) (p : Int) (l : List (Nat × Blk)) : killH b ((j, rdB code p) :: l) = (j, rdB code p) :: killH b l := (rfl)

theorem s_l6Open (code : List UInt8) : Spec Try.prog 33 0 [] [.r (.ro none (code.map byteRow))] (NewV (rdB (code.take 2000) 0)) := by
  refine mk33 rfl fun c hP hm => ?_
  unfold pc33 NewV rdB
  simp only [go_sem, ↓reduceIte]
  intro _
  refine ⟨fun h => ⟨⟨?_, ?_⟩, ?_⟩, fun h => ?_⟩
  · omega
  · intro r hr
    obtain ⟨b, _, rfl⟩ := List.mem_map.1 hr
    rfl
  · simp [List.map_take]
  · rw [List.take_of_length_le (by omega)]

theorem tmod_range {a n : Int} (h0 : 0 ≤ a) (h : 0 < n) : 0 ≤ a.tmod n ∧ a.tmod n < n := by
  rw [Int.tmod_eq_emod_of_nonneg h0]
  exact ⟨Int.emod_nonneg _ (by omega), Int.emod_lt_of_pos _ h⟩
/-- What a number drawn below 'n' may be. -/
def Below (n v : Int) : Prop := 0 ≤ v ∧ (v < n ∨ v = 0)
theorem s_pick (code : List UInt8) (p n : Int) (hp : 0 ≤ p ∧ p ≤ 1000000) (hc : code.length ≤ 2000) : Spec Try.prog 42 1 [(0, rdB code p)] [.ptr 0 0 0, .i n] (Named fun r B => B = rdB code (p + 1) ∧ ∃ v, r = .i v ∧ Below n v) := by
  refine Spec.named (mk42 rfl fun c hP hm => ?_)
  unfold pc42 rdB
  simp only [go_sem, ↓reduceIte]
  rw [wrap64 (x := p + 1) (by omega) (by omega)]
  have e : IntKind.i64.wrap (p + 1 - 1) = p := by rw [wrap64 (by omega) (by omega)]; omega
  rw [e]
  have hat : ∀ j : Int, 0 ≤ j → j < code.length → ∃ b : UInt8, (code.map byteRow).getD j.toNat [] = [.n .u8 b.toNat] := fun j h0 h1 => by
    have hj : j.toNat < code.length := by omega
    exact ⟨code[j.toNat], by rw [getD_map hj]; rfl⟩
  have hz : ∀ x : Int, x = 0 → Below n x := fun x hx => ⟨by omega, .inr hx⟩
  have ht : ∀ x : Int, 0 ≤ x → 1 ≤ n → Below n (x.tmod n) := fun x h0 h1 => ⟨(tmod_range h0 (by omega)).1, .inl (tmod_range h0 (by omega)).2⟩
  refine ⟨fun hn => ?_, fun hn => ⟨_, rfl, rfl, rfl, _, rfl, hz _ rfl⟩⟩
  intro _
  refine ⟨fun h0 => ⟨_, rfl, rfl, rfl, _, rfl, hz _ rfl⟩, fun h0 => ?_⟩
  intro _
  refine ⟨fun hlt => ?_, fun hge => ?_⟩
  · obtain ⟨b, hb⟩ := hat p hp.1 hlt
    simp only [hb, go_sem, ↓reduceIte]
    have hb2 := b.toNat_lt
    rw [wrap64 (by omega) (by omega)]
    exact ⟨⟨hp.1, hlt⟩, by omega, _, rfl, rfl, rfl, _, rfl, ht _ (by omega) hn⟩
  · intro _
    have hl : (0 : Int) < code.length := by omega
    obtain ⟨k1, k2⟩ := tmod_range hp.1 hl
    obtain ⟨b, hb⟩ := hat _ k1 k2
    have e7 : IntKind.i64.wrap (IntKind.i64.wrap (p * 7) + 3) = p * 7 + 3 := by
      rw [wrap64 (x := p * 7) (by omega) (by omega), wrap64 (by omega) (by omega)]
    obtain ⟨k3, k4⟩ := tmod_range (a := p * 7 + 3) (by omega) hl
    obtain ⟨d, hd⟩ := hat _ k3 k4
    simp only [hb, e7, hd, go_sem, ↓reduceIte]
    have hb2 := b.toNat_lt
    have hd2 := d.toNat_lt
    have hq : 0 ≤ p.tdiv code.length ∧ p.tdiv code.length ≤ p := by
      rw [Int.tdiv_eq_ediv_of_nonneg hp.1]
      exact ⟨Int.ediv_nonneg hp.1 (by omega), Int.ediv_le_self _ hp.1⟩
    rw [wrap64 (x := (b.toNat : Int)) (by omega) (by omega), wrap64 (x := (d.toNat : Int)) (by omega) (by omega), wrap64 (x := (b.toNat : Int) * 131) (by omega) (by omega), wrap64 (x := (d.toNat : Int) * 1117) (by omega) (by omega),
      wrap64 (x := (b.toNat : Int) * 131 + _) (by omega) (by omega), wrap64 (x := p * 29) (by omega) (by omega), wrap64 (x := (b.toNat : Int) * 131 + (d.toNat : Int) * 1117 + _) (by omega) (by omega), wrap64 (x := p.tdiv code.length) (by omega) (by omega),
      wrap64 (x := p.tdiv code.length * 53) (by omega) (by omega), wrap64 (x := (b.toNat : Int) * 131 + (d.toNat : Int) * 1117 + p * 29 + _) (by omega) (by omega)]
    generalize hx : (b.toNat : Int) * 131 + (d.toNat : Int) * 1117 + p * 29 + p.tdiv code.length * 53 = x
    have hx0 : 0 ≤ x ∧ x < 1000000000 := by omega
    have hx6 : 0 ≤ x.tdiv 64 ∧ x.tdiv 64 ≤ x := by
      rw [Int.tdiv_eq_ediv_of_nonneg hx0.1]; omega
    rw [wrap64 (x := x.tdiv 64) (by omega) (by omega)]
    have hxx := bitXor_nn (a := x) (b := x.tdiv 64) (by omega) (by omega)
    exact ⟨h0, ⟨k1, k2⟩, fun _ => ⟨h0, ⟨k3, k4⟩, fun _ => ⟨h0, by omega, _, rfl, rfl, rfl, _, rfl, ht _ hxx.1 hn⟩⟩⟩
theorem c_pick {c : Cx} (hP : c.P = Try.prog) {code : List UInt8} {p n : Int} {s : St} {K : AV → St → Prop} {b : Nat} (hb : hget s.hp b = some (rdB code p)) (hp : 0 ≤ p ∧ p ≤ 1000000) (hc : code.length ≤ 2000)
    (h : ∀ v, Below n v → K (.i v) ⟨s.sl, (b, rdB code (p + 1)) :: hdel s.hp b, s.nx, s.gs⟩) : Call c 42 [.ptr b 0 0, .i n] s K :=
  call_named b (hP ▸ s_pick code p n hp hc) hb rfl rfl (fun r B ⟨h1, v, h2, h3⟩ => by subst h1; subst h2; exact ⟨rfl, rfl⟩) fun r B ⟨h1, v, h2, h3⟩ => by subst h1; subst h2; exact h v h3

/-- A number between bounds, behind some draws. -/
def Draw (code : List UInt8) (p : Int) (k : Int) (lo hi : Int) (r : AV) (B : Blk) : Prop := ∃ v p', r = .i v ∧ B = rdB code p' ∧ p ≤ p' ∧ p' ≤ p + k ∧ lo ≤ v ∧ v ≤ hi
theorem c_draw {c : Cx} {f : Nat} {code : List UInt8} {p k lo hi : Int} {s : St} {K : AV → St → Prop} {b : Nat} (hs : Spec c.P f 1 [(0, rdB code p)] [.ptr 0 0 0] (Named (Draw code p k lo hi))) (hb : hget s.hp b = some (rdB code p))
    (h : ∀ v p', p ≤ p' → p' ≤ p + k → lo ≤ v → v ≤ hi → K (.i v) ⟨s.sl, (b, rdB code p') :: hdel s.hp b, s.nx, s.gs⟩) : Call c f [.ptr b 0 0] s K :=
  call_named b hs hb rfl rfl (fun r B ⟨v, p', h1, h2, _⟩ => by subst h1; subst h2; exact ⟨rfl, rfl⟩) fun r B ⟨v, p', h1, h2, h3, h4, h5, h6⟩ => by subst h1; subst h2; exact h v p' h3 h4 h5 h6
theorem s_l91Word (code : List UInt8) (p : Int) (hp : 0 ≤ p ∧ p ≤ 999990) (hc : code.length ≤ 2000) : Spec Try.prog 50 1 [(0, rdB code p)] [.ptr 0 0 0] (Named (Draw code p 3 (-1) 65536)) := by
  refine Spec.named (mk50 rfl fun c hP hm => ?_)
  unfold pc50
  simp only [go_sem, ↓reduceIte]
  have fin : ∀ (v p' : Int), p ≤ p' → p' ≤ p + 3 → -1 ≤ v → v ≤ 65536 → ∃ B', some (rdB code p') = some B' ∧ plainBlk B' = true ∧ Draw code p 3 (-1) 65536 (.i v) B' := fun v p' h1 h2 h3 h4 => ⟨_, rfl, rfl, v, p', rfl, rfl, h1, h2, h3, h4⟩
  refine c_pick hP (by rfl) (by omega) hc fun v hv => ?_
  simp only [go_sem, ↓reduceIte]
  refine ⟨fun _ => ?_, fun _ => ?_⟩
  · refine c_pick hP (by rfl) (by omega) hc fun u hu => ?_
    have hu' : u = 0 ∨ u = 1 ∨ u = 2 ∨ u = 3 ∨ u = 4 ∨ u = 5 := by unfold Below at hu; omega
    rcases hu' with rfl | rfl | rfl | rfl | rfl | rfl
    all_goals
      simp only [go_sem, ↓reduceIte]
      exact fin _ _ (by omega) (by omega) (by omega) (by omega)
  · repeat' first | refine And.intro ?_ ?_ | intro _ | (refine c_pick hP (by rfl) (by omega) hc fun u hu => ?_; simp only [go_sem, ↓reduceIte])
    all_goals
      unfold Below at *
      try simp (disch := omega) only [wrap64]
      exact fin _ _ (by omega) (by omega) (by omega) (by omega)
theorem s_l91Good (code : List UInt8) (p : Int) (hp : 0 ≤ p ∧ p ≤ 999990) (hc : code.length ≤ 2000) : Spec Try.prog 51 1 [(0, rdB code p)] [.ptr 0 0 0] (Named (Draw code p 3 0 65535)) := by
  refine Spec.named (mk51 rfl fun c hP hm => ?_)
  unfold pc51
  simp only [go_sem, ↓reduceIte]
  refine c_draw (hP ▸ s_l91Word code p hp hc) rfl fun v p' h1 h2 h3 h4 => ?_
  simp only [go_sem, ↓reduceIte]
  refine ⟨_, rfl, rfl, _, p', rfl, rfl, h1, h2, ?_, ?_⟩ <;> (repeat' split) <;> omega
end Go.Cap
