import Derived.Test.YtpkemdacmcjgmaaR2
/- Contracts: talks that are sometimes invalid; a talk and a side. -/
namespace Go.Cap
open Go Go.Proofs
set_option maxRecDepth 100000
set_option linter.unusedSimpArgs false
set_option linter.unusedVariables false
attribute [local irreducible] Call Run Spec Le

theorem c_drawT {c : Cx} {f : Nat} {code : List UInt8} {p k : Int} {m : Nat} {s : St} {K : AV → St → Prop} {b : Nat} (hs : Spec c.P f 1 [(0, rdB code p)] [.ptr 0 0 0] (NamedNew (DrawT code p k m))) (hb : hget s.hp b = some (rdB code p))
    (h : ∀ (t : Talk) p', p ≤ p' → p' ≤ p + k → t.says.length ≤ m → (∀ s ∈ t.says, s.text.length ≤ 1000) → K (t.av (.sl s.nx 0 t.says.length)) ⟨s.sl, (b, rdB code p') :: (s.nx, .row 4 (t.says.map Say.row)) :: hdel s.hp b, s.nx + 1, s.gs⟩) : Call c f [.ptr b 0 0] s K :=
  call_namedNew b hs hb rfl rfl (fun r B sz L ⟨t, p', h1, h2, _⟩ => by subst h2; rfl) fun r B sz L ⟨t, p', h1, h2, h3, h4, h5, h6, h7, h8⟩ => by subst h1; subst h2; subst h3; subst h4; exact h t p' h5 h6 h7 h8

theorem s_l92Odd (code : List UInt8) (p : Int) (hp : 0 ≤ p ∧ p ≤ 980000) (hc : code.length ≤ 2000) : Spec Try.prog 57 1 [(0, rdB code p)] [.ptr 0 0 0] (NamedNew (DrawT code p 200 6)) := by
  refine Spec.namedNew (mk57 rfl fun c hP hm => ?_)
  unfold pc57
  simp only [go_sem, ↓reduceIte]
  refine c_drawT (hP ▸ s_l92Talk code p (by omega) hc) rfl fun t p1 h1 h2 h3 h4 => ?_
  simp only [Talk.av, go_sem, ↓reduceIte]
  refine c_pick hP (by rfl) (by omega) hc fun u hu => ?_
  simp only [go_sem, ↓reduceIte]
  refine ⟨fun _ => ?_, fun _ => ⟨fun _ => ?_, fun _ => ⟨fun _ => ?_, fun _ => ⟨fun _ => ?_, fun _ => ⟨fun _ => ?_, fun _ => ?_⟩⟩⟩⟩⟩
  · refine c_draw (hP ▸ s_l91Word code (p1 + 1) (by omega) hc) rfl fun v5 p5 g1 g2 g3 g4 => ?_
    simp only [go_sem, ↓reduceIte]
    exact ⟨_, _, _, 2, (({ t with fr := v5 } : Talk)).av (.sl 1 0 t.says.length), rfl, rfl, by decide, rfl, ⟨rfl, av_ren _ _⟩, { t with fr := v5 }, p5, rfl, rfl, rfl, rfl, by omega, by omega, Nat.le_trans h3 (by decide), h4⟩
  · refine call_named 0 (hP ▸ s_l91Init code (p1 + 1) (by omega) hc) rfl rfl rfl (fun r B ⟨x, p', h1, h2, _⟩ => by subst h1; subst h2; exact ⟨rfl, rfl⟩) ?_
    rintro r B ⟨x, p5, rfl, rfl, g1, g2⟩
    simp only [Init.av, go_sem, ↓reduceIte]
    exact ⟨_, _, _, 2, (({ t with a := x } : Talk)).av (.sl 1 0 t.says.length), rfl, rfl, by decide, rfl, ⟨rfl, av_ren _ _⟩, { t with a := x }, p5, rfl, rfl, rfl, rfl, by omega, by omega, Nat.le_trans h3 (by decide), h4⟩
  · refine c_pick hP (by rfl) (by omega) hc fun u2 hu2 => ?_
    simp only [go_sem, ↓reduceIte]
    exact ⟨_, _, _, 2, (({ t with size := IntKind.i64.wrap (u2 - 1) } : Talk)).av (.sl 1 0 t.says.length), rfl, rfl, by decide, rfl, ⟨rfl, av_ren _ _⟩, { t with size := IntKind.i64.wrap (u2 - 1) }, p1 + 1 + 1, rfl, rfl, rfl, rfl, by omega, by omega, Nat.le_trans h3 (by decide), h4⟩
  · refine c_pick hP (by rfl) (by omega) hc fun u2 hu2 => ?_
    simp only [go_sem, ↓reduceIte]
    refine c_pick hP (by rfl) (by omega) hc fun u3 hu3 => ?_
    simp only [go_sem, ↓reduceIte]
    refine call_flatQ (hP ▸ s_l6Many u3 (by unfold Below at hu3; omega)) (vws_self _ _ rfl) ?_
    rintro r ⟨w, rfl, hw⟩
    refine ⟨rfl, ?_⟩
    simp only [hm, go_sem, ↓reduceIte]
    have hrows : List.take t.says.length (List.map Say.row t.says) ++ [[RV.b false, RV.n IntKind.i64 (IntKind.i64.wrap (u2 - 1)), RV.b false, RV.s w]] = (t.says ++ [(⟨false, IntKind.i64.wrap (u2 - 1), false, w⟩ : Say)]).map Say.row := by
      rw [List.take_of_length_le (by simp)]; simp [Say.row]
    have hlen : t.says.length + 1 = (t.says ++ [(⟨false, IntKind.i64.wrap (u2 - 1), false, w⟩ : Say)]).length := by simp
    have hx2 : ∀ s ∈ t.says ++ [(⟨false, IntKind.i64.wrap (u2 - 1), false, w⟩ : Say)], s.text.length ≤ 1000 := fun s hs => by
      rcases List.mem_append.1 hs with hs | hs
      · exact h4 s hs
      · simp only [List.mem_singleton] at hs; subst hs; exact hw
    rw [hrows, hlen]
    refine ⟨by rw [← hlen]; omega, ?_⟩
    exact ⟨_, _, _, 2, (({ t with says := t.says ++ [(⟨false, IntKind.i64.wrap (u2 - 1), false, w⟩ : Say)] } : Talk)).av (.sl 1 0 (t.says ++ [(⟨false, IntKind.i64.wrap (u2 - 1), false, w⟩ : Say)]).length), rfl, rfl, by decide, rfl, ⟨rfl, av_ren _ _⟩, { t with says := t.says ++ [(⟨false, IntKind.i64.wrap (u2 - 1), false, w⟩ : Say)] }, p1 + 1 + 1 + 1, rfl, rfl, rfl, rfl, by omega, by omega, by simp only; rw [← hlen]; omega, hx2⟩
  · exact ⟨_, _, _, 2, (({ t with to := t.fr } : Talk)).av (.sl 1 0 t.says.length), rfl, rfl, by decide, rfl, ⟨rfl, av_ren _ _⟩, { t with to := t.fr }, p1 + 1, rfl, rfl, rfl, rfl, by omega, by omega, Nat.le_trans h3 (by decide), h4⟩
  · exact ⟨_, _, _, 2, ((t : Talk)).av (.sl 1 0 t.says.length), rfl, rfl, by decide, rfl, ⟨rfl, av_ren _ _⟩, t, p1 + 1, rfl, rfl, rfl, rfl, by omega, by omega, Nat.le_trans h3 (by decide), h4⟩

/-- A talk and a side, drawn from a code. -/
def DrawTB (r : AV) (hp : List (Nat × Blk)) (nx : Nat) (gs : List Nat) : Prop := ∃ t : Talk, ∃ byB : Bool, New1 (.tup [t.av (.sl 0 0 t.says.length), .bo byB]) 4 (t.says.map Say.row) r hp nx gs ∧ t.says.length ≤ 6 ∧ ∀ s ∈ t.says, s.text.length ≤ 1000
theorem s_DrawTalkParts (code : List UInt8) : Spec Try.prog 24 0 [] [.r (.ro none (code.map byteRow))] DrawTB := by
  refine Spec.le (Q := fun r hp _ _ => ∃ t : Talk, ∃ byB : Bool, ∃ b, r = .tup [t.av (.sl b 0 t.says.length), .bo byB] ∧ hget hp b = some (.row 4 (t.says.map Say.row)) ∧ t.says.length ≤ 6 ∧ ∀ s ∈ t.says, s.text.length ≤ 1000) ?_ ?_
  · refine mk24 rfl fun c hP hm => ?_
    unfold pc24
    simp only [go_sem, ↓reduceIte]
    refine call_newV (hP ▸ s_l6Open code) rfl rfl ?_
    simp only [go_sem, ↓reduceIte]
    refine c_drawT (hP ▸ s_l92Odd _ 0 (by omega) (by simp; omega)) rfl fun t p1 h1 h2 h3 h4 => ?_
    simp only [Talk.av, go_sem, ↓reduceIte]
    refine c_pick hP (by rfl) (by omega) (by simp; omega) fun u hu => ?_
    simp only [go_sem, ↓reduceIte]
    exact ⟨t, _, 2, rfl, rfl, h3, h4⟩
  · rintro r hp nx gs ⟨t, byB, b, rfl, hb, h1, h2⟩
    refine ⟨.tup [t.av (.sl 0 0 t.says.length), .bo byB], [(0, .row 4 (t.says.map Say.row))], 1, [], ⟨t, byB, ⟨rfl, rfl, rfl, rfl⟩, h1, h2⟩, fun c hc => le_ev [(0, b)] ?_⟩
    simp only [Talk.av, hc, go_sem, ↓reduceIte, hb]
theorem c_drawTB {c : Cx} {f : Nat} {code : List UInt8} {s : St} {K : AV → St → Prop} (hs : Spec c.P f 0 [] [.r (.ro none (code.map byteRow))] DrawTB)
    (h : ∀ (t : Talk) (byB : Bool), t.says.length ≤ 6 → (∀ s ∈ t.says, s.text.length ≤ 1000) → K (.tup [t.av (.sl s.nx 0 t.says.length), .bo byB]) ⟨s.sl, (s.nx, .row 4 (t.says.map Say.row)) :: s.hp, s.nx + 1, s.gs⟩) : Call c f [.r (.ro none (code.map byteRow))] s K :=
  call_cl hs (vws_self _ _ rfl).spec fun r hp nx gs ⟨t, byB, ⟨h1, h2, h3, h4⟩, h5, h6⟩ => by
    subst h1; subst h2; subst h3; subst h4
    refine ⟨⟨rfl, fun p hp => ?_⟩, h t byB h5 h6⟩
    simp only [List.mem_singleton] at hp
    subst hp
    exact sayClosed _
end Go.Cap
