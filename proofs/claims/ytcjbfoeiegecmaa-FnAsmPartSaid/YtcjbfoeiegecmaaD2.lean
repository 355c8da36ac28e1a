import Derived.Test.YtcjbfoeiegecmaaD1
import Derived.Test.YtcjbfoeiegecmaaQ4
import Derived.Test.YtcjbfoeiegecmaaP4
/- Contracts: parts of a talk are drawn. -/
namespace Go.Cap
open Go Go.Proofs
set_option maxRecDepth 100000
set_option linter.unusedSimpArgs false
set_option linter.unusedVariables false
attribute [local irreducible] Call Run Spec Le

/-- Parts of a talk's side A, behind some draws, in a new block. -/
def DrawL (code : List UInt8) (p : Int) (k : Int) (t : Talk) (r : AV) (B : Blk) (sz : Nat) (L : List (List RV)) : Prop := ∃ l : List Data, ∃ p', r = .sl 1 0 l.length ∧ B = rdB code p' ∧ sz = 7 ∧ L = l.map Data.row ∧ p ≤ p' ∧ p' ≤ p + k ∧ l.length ≤ 13 ∧ ∀ d ∈ l, d ∈ talkParts t false
def DrawL0 (code : List UInt8) (p : Int) (k : Int) (t : Talk) (r : AV) (B : Blk) (sz : Nat) (L : List (List RV)) : Prop := ∃ l : List Data, ∃ n p', r = .sl 1 0 n ∧ B = rdB code p' ∧ sz = 7 ∧ L = l.map Data.row ∧ p ≤ p' ∧ p' ≤ p + k ∧ l.length ≤ 13 ∧ n ≤ l.length ∧ ∀ d ∈ l, d ∈ talkParts t false
theorem s_l92Parts0 (code : List UInt8) (p : Int) (t : Talk) (hv : talkB t = true) (hl : t.says.length ≤ 1048576) (hx : ∀ s ∈ t.says, s.text.length ≤ 1048576) (hp : 0 ≤ p ∧ p ≤ 980000) (hc : code.length ≤ 2000) : Spec Try.prog 43 1 [(0, rdB code p)] [.ptr 0 0 0, t.ro] (NamedNew (DrawL0 code p 50 t)) := by
  refine Spec.namedNew (mk43 rfl fun c hP hm => ?_)
  unfold pc43
  simp only [Talk.ro, Talk.av, hm, go_sem, ↓reduceIte]
  refine call_new1 (hP ▸ s_specTalkParts t false hl hx) rfl (dataClosed _) (vws_self _ _ rfl) ?_
  have h12 : (talkParts t false).length ≤ 12 := talkParts_12 t false hv
  have fin : ∀ (l : List Data) (n : Nat) (q : Int) (b : Nat), p ≤ q → q ≤ p + 50 → l.length ≤ 13 → n ≤ l.length → (∀ d ∈ l, d ∈ talkParts t false) → b ≠ 0 → ∃ r0, (AV.sl b 0 n = renA (fun x => if x = 1 then b else x) r0 ∧ ∀ f g : Nat → Nat, f 1 = g 1 → renA f r0 = renA g r0) ∧ DrawL0 code p 50 t r0 (rdB code q) 7 (l.map Data.row) := fun l n q b h1 h2 h3 h6 h4 h5 =>
    ⟨.sl 1 0 n, ⟨rfl, fun f g h => by simp only [go_sem, h]⟩, l, n, q, rfl, rfl, rfl, rfl, h1, h2, h3, h6, h4⟩
  simp only [hm, go_sem, ↓reduceIte]
  refine fun _ => ⟨fun h0 => ?_, fun h0 => ?_⟩
  · obtain ⟨r0, k1, k2⟩ := fin (talkParts t false) _ p 2 (by omega) (by omega) (by omega) (Nat.le_refl _) (fun d h => h) (by decide)
    exact ⟨_, _, _, 2, r0, rfl, rfl, by decide, rfl, k1, k2⟩
  refine c_pick hP (by rfl) (by omega) hc fun n hn => ?_
  have hn' : 0 ≤ n ∧ n ≤ 7 := by unfold Below at hn; omega
  simp only [hm, go_sem, ↓reduceIte]
  refine run_exit 0 (fun t0 => ∃ (l : List Data) (q : Int), t0 = ⟨[(0, .ptr 0 0 0), (5, .sl 1 0 l.length)], [(0, rdB code q), (1, .row 7 (l.map Data.row))], 2, []⟩ ∧ l.length = (talkParts t false).length ∧ p ≤ q ∧ q ≤ p + 30 ∧ ∀ d ∈ l, d ∈ talkParts t false) ?_ ?_
  · refine lp_wpc (α := Nat × List Data × Int) (fun y => ⟨[(0, .ptr 0 0 0), (5, .sl 1 0 y.2.1.length), (6, .i n), (7, .i y.1)], [(0, rdB code y.2.2), (1, .row 7 (y.2.1.map Data.row))], 2, []⟩)
      (fun y => (y.1 : Int) ≤ n ∧ y.2.1.length = (talkParts t false).length ∧ (p ≤ y.2.2 ∧ y.2.2 = p + 1 + 2 * y.1) ∧ ∀ d ∈ y.2.1, d ∈ talkParts t false) (fun y => (n - y.1).toNat) (0, talkParts t false, p + 1) ⟨hn'.1, rfl, ⟨by show p ≤ p + 1; omega, by show p + 1 = p + 1 + 2 * ((0 : Nat) : Int); omega⟩, fun d h => h⟩ (by (refine le_ev [(1, 2)] ?_; simp only [hm, go_sem, ↓reduceIte]; first | done | rfl | exact ⟨rfl, rfl⟩)) ?_
    rintro ⟨i, l, q⟩ ⟨hi, hll, ⟨hq, hq2⟩, hin⟩
    simp only at hi hll hq hq2 hin
    unfold pc43l0
    simp only [hm, go_sem, ↓reduceIte]
    refine ⟨fun hlt => ?_, fun hge => ⟨_, ⟨l, q, rfl, hll, hq, by omega, hin⟩, by (refine le_ev [] ?_; simp only [hm, go_sem, ↓reduceIte]; first | done | rfl | exact ⟨rfl, rfl⟩)⟩⟩
    intro _
    refine c_pick hP (by rfl) (by omega) hc fun a ha => ?_
    simp only [hm, go_sem, ↓reduceIte]
    intro _
    refine c_pick hP (by rfl) (by omega) hc fun b hb => ?_
    have ha' : 0 ≤ a ∧ a < l.length := by unfold Below at ha; omega
    have hb' : 0 ≤ b ∧ b < l.length := by unfold Below at hb; omega
    have han : a.toNat < l.length := by omega
    have hbn : b.toNat < l.length := by omega
    have hga := getD_map (f := Data.row) han
    have hgb := getD_map (f := Data.row) hbn
    have hma := hin _ (List.getElem_mem han)
    have hmb := hin _ (List.getElem_mem hbn)
    generalize l[a.toNat] = da at hga hma
    generalize l[b.toNat] = db at hgb hmb
    simp only [hga, hgb, Data.row, List.length_map, List.length_set, hm, go_sem, ↓reduceIte]
    rw [wrap64 (x := (i : Int) + 1) (by omega) (by omega)]
    have hset : ((l.map Data.row).set a.toNat [.n .i64 db.tsn, .n .i64 db.stream, .n .i64 db.ssn, .b db.first, .b db.last, .b db.loose, .s db.text]).set b.toNat [.n .i64 da.tsn, .n .i64 da.stream, .n .i64 da.ssn, .b da.first, .b da.last, .b da.loose, .s da.text] = ((l.set a.toNat db).set b.toNat da).map Data.row := by
      rw [List.map_set, List.map_set]; rfl
    rw [hset]
    refine ⟨by omega, by omega, by omega, by omega, by omega, by omega, by omega, by omega, (i + 1, (l.set a.toNat db).set b.toNat da, q + 1 + 1), ⟨by simp only; omega, by simp only [List.length_set]; exact hll, ⟨by simp only; omega, by simp only; omega⟩, fun d hd => ?_⟩, by simp only; omega, by simp only [List.length_set]; (refine le_ev [] ?_; simp only [hm, go_sem, ↓reduceIte]; first | done | rfl | exact ⟨rfl, rfl⟩)⟩
    rcases List.mem_or_eq_of_mem_set hd with hd | rfl
    · rcases List.mem_or_eq_of_mem_set hd with hd | rfl
      · exact hin d hd
      · exact hmb
    · exact hma
  rintro t0 ⟨l, q, rfl, hll, hq, hq2, hin⟩
  simp only [hm, go_sem, ↓reduceIte]
  refine c_pick hP (by rfl) (by omega) hc fun u hu => ?_
  simp only [hm, go_sem, ↓reduceIte]
  refine ⟨fun _ => ?_, fun _ => ⟨fun _ => ?_, fun _ => ?_⟩⟩
  · intro _
    refine c_pick hP (by rfl) (by omega) hc fun a ha => ?_
    have ha' : 0 ≤ a ∧ a < l.length := by unfold Below at ha; omega
    have han : a.toNat < l.length := by omega
    have hga := getD_map (f := Data.row) han
    have hma := hin _ (List.getElem_mem han)
    generalize l[a.toNat] = da at hga hma
    simp only [hga, Data.row, hm, go_sem, ↓reduceIte]
    refine ⟨by omega, by omega, by omega, ?_⟩
    have hrow : List.take l.length (l.map Data.row) ++ [[.n .i64 da.tsn, .n .i64 da.stream, .n .i64 da.ssn, .b da.first, .b da.last, .b da.loose, .s da.text]] = (l ++ [da]).map Data.row := by
      rw [List.take_of_length_le (by simp), List.map_append]; rfl
    rw [hrow]
    obtain ⟨r0, k1, k2⟩ := fin (l ++ [da]) (l.length + 1) (q + 1 + 1) 1 (by omega) (by omega) (by simp; omega) (by simp) (fun d h => by
      rcases List.mem_append.1 h with h | h
      · exact hin d h
      · simp only [List.mem_singleton] at h; subst h; exact hma) (by decide)
    exact ⟨_, _, _, 1, r0, rfl, rfl, by decide, rfl, k1, k2⟩
  · intro _
    refine c_pick hP (by rfl) (by omega) hc fun a ha => ?_
    have ha' : 0 ≤ a ∧ a < l.length := by unfold Below at ha; omega
    simp only [hm, go_sem, ↓reduceIte]
    refine ⟨by omega, ?_⟩
    obtain ⟨r0, k1, k2⟩ := fin l a.toNat (q + 1 + 1) 1 (by omega) (by omega) (by omega) (by omega) hin (by decide)
    exact ⟨_, _, _, 1, r0, rfl, rfl, by decide, rfl, k1, k2⟩
  · obtain ⟨r0, k1, k2⟩ := fin l l.length (q + 1) 1 (by omega) (by omega) (by omega) (Nat.le_refl _) hin (by decide)
    exact ⟨_, _, _, 1, r0, rfl, rfl, by decide, rfl, k1, k2⟩
theorem s_l92Parts (code : List UInt8) (p : Int) (t : Talk) (hv : talkB t = true) (hl : t.says.length ≤ 1048576) (hx : ∀ s ∈ t.says, s.text.length ≤ 1048576) (hp : 0 ≤ p ∧ p ≤ 980000) (hc : code.length ≤ 2000) : Spec Try.prog 43 1 [(0, rdB code p)] [.ptr 0 0 0, t.ro] (NamedNew (DrawL code p 50 t)) := by
  refine (s_l92Parts0 code p t hv hl hx hp hc).le fun r hp nx gs ⟨B, sz, L, ⟨l, n, p', h1, h2, h3, h4, h5, h6, h7, h8, h9⟩, e1, e2, e3⟩ => ?_
  subst h1; subst h2; subst h3; subst h4; subst e1; subst e2; subst e3
  have hn : (l.take n).length = n := by rw [List.length_take]; omega
  refine ⟨.sl 1 0 (l.take n).length, [(0, rdB code p'), (1, .row 7 ((l.take n).map Data.row))], 2, [], ⟨_, _, _, ⟨l.take n, p', rfl, rfl, rfl, rfl, h5, h6, by omega, fun d hd => h9 d (List.mem_of_mem_take hd)⟩, rfl, rfl, rfl⟩, fun c hc => ?_⟩
  refine Le.trans (le_prefix 1 n rfl (by rw [List.length_map]; exact h8)) ?_
  rw [hn, List.map_take]
  exact Le.refl _
theorem c_drawL {c : Cx} {f : Nat} {code : List UInt8} {p k : Int} {t : Talk} {s : St} {K : AV → St → Prop} {b : Nat} (hs : Spec c.P f 1 [(0, rdB code p)] [.ptr 0 0 0, t.ro] (NamedNew (DrawL code p k t))) (hb : hget s.hp b = some (rdB code p))
    (h : ∀ (l : List Data) p', p ≤ p' → p' ≤ p + k → l.length ≤ 13 → (∀ d ∈ l, d ∈ talkParts t false) → K (.sl s.nx 0 l.length) ⟨s.sl, (b, rdB code p') :: (s.nx, .row 7 (l.map Data.row)) :: hdel s.hp b, s.nx + 1, s.gs⟩) : Call c f [.ptr b 0 0, t.ro] s K :=
  call_namedNew b hs hb rfl rfl (fun r B sz L ⟨l, p', h1, h2, _⟩ => by subst h2; rfl) fun r B sz L ⟨l, p', h1, h2, h3, h4, h5, h6, h7, h8⟩ => by subst h1; subst h2; subst h3; subst h4; exact h l p' h5 h6 h7 h8
end Go.Cap
