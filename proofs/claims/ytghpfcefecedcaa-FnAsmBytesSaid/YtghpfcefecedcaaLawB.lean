import Derived.Test.YtghpfcefecedcaaEngC
import Derived.Test.YtghpfcefecedcaaLawA
import Derived.Test.YtghpfcefecedcaaPc
/- Contracts: parts of a talk are drawn. -/
namespace Go.Cap
open Go Go.Proofs
set_option maxRecDepth 100000
set_option linter.unusedSimpArgs false
set_option linter.unusedVariables false
attribute [local irreducible] Call Run Spec Le

/-- Parts of a talk's side A, behind some draws, in a new block. -/
def DrawL (code : List UInt8) (p : Int) (k : Int) (t : Talk) (r : AV) (B : Blk) (sz : Nat) (L : List (List RV)) : Prop := ∃ l : List Data, ∃ p', r = .sl 1 0 l.length ∧ B = rdB code p' ∧ sz = 7 ∧ L = l.map Data.row ∧ p ≤ p' ∧ p' ≤ p + k ∧ l.length ≤ 13 ∧ ∀ d ∈ l, d ∈ talkParts t false
def DrawL0 (code : List UInt8) (p : Int) (k : Int) (t : Talk) (r : AV) (B : Blk) (sz : Nat) (L : List (List RV)) : Prop := ∃ l : List Data, ∃ n p', r = .sl 1 0 n ∧ B = rdB code p' ∧ sz = 7 ∧ L = l.map Data.row ∧ p ≤ p' ∧ p' ≤ p + k ∧ l.length ≤ 13 ∧ n ≤ l.length ∧ ∀ d ∈ l, d ∈ talkParts t false
theorem s_l92Parts0 (code : List UInt8) (p : Int) (t : Talk) (hv : talkB t = true) (hl : t.says.length ≤ 1048576) (hx : ∀ s ∈ t.says, s.text.length ≤ 1048576) (hp : 0 ≤ p ∧ p ≤ 980000) (hc : code.length ≤ 2000) : Spec Try.prog 153 1 [(0, rdB code p)] [.ptr 0 0 0, t.ro] (NamedNew (DrawL0 code p 50 t)) := by
  refine Spec.namedNew (mk153 rfl fun c hP hm => ?_)
  unfold pc153
  simp only [Talk.ro, Talk.av, hm, go_sem, ↓reduceIte]
  refine call_new1 (hP ▸ s_specTalkParts t false hl hx) rfl (dataClosed _) (vws_self _ _ rfl) ?_
  have h12 : (talkParts t false).length ≤ 12 := talkParts_12 t false hv
  have fin : ∀ (l : List Data) (n : Nat) (q : Int) (b : Nat), p ≤ q → q ≤ p + 50 → l.length ≤ 13 → n ≤ l.length → (∀ d ∈ l, d ∈ talkParts t false) → b ≠ 0 → ∃ r0, (AV.sl b 0 n = renA (fun x => if x = 1 then b else x) r0 ∧ ∀ f g : Nat → Nat, f 1 = g 1 → renA f r0 = renA g r0) ∧ DrawL0 code p 50 t r0 (rdB code q) 7 (l.map Data.row) := fun l n q b h1 h2 h3 h6 h4 h5 =>
    ⟨.sl 1 0 n, ⟨rfl, fun f g h => by simp only [go_sem, h]⟩, l, n, q, rfl, rfl, rfl, rfl, h1, h2, h3, h6, h4⟩
  simp only [hm, go_sem, ↓reduceIte]
  refine fun _ => ⟨fun h0 => ?_, fun h0 => ?_⟩
  · obtain ⟨r0, k1, k2⟩ := fin (talkParts t false) _ p 2 (by omega) (by omega) (by omega) (Nat.le_refl _) (fun d h => h) (by decide)
    exact ⟨_, _, _, 2, r0, rfl, rfl, by decide, rfl, k1, k2⟩
  refine c_pick hP (by rfl) (by omega) hc fun n hn => ?_
  have hn' : 0 ≤ n ∧ n ≤ 7 := by unfold Below at hn; omega
  simp only [hm, go_sem, ↓reduceIte]
  refine run_exit 0 (fun t0 => ∃ (l : List Data) (q : Int), t0 = ⟨[(0, .ptr 0 0 0), (5, .sl 1 0 l.length)], [(0, rdB code q), (1, .row 7 (l.map Data.row))], 2, []⟩ ∧ l.length = (talkParts t false).length ∧ p ≤ q ∧ q ≤ p + 30 ∧ ∀ d ∈ l, d ∈ talkParts t false) ?_ ?_
  · refine lp_wpc (α := Nat × List Data × Int) (fun y => ⟨[(0, .ptr 0 0 0), (5, .sl 1 0 y.2.1.length), (6, .i n), (7, .i y.1)], [(0, rdB code y.2.2), (1, .row 7 (y.2.1.map Data.row))], 2, []⟩)
      (fun y => (y.1 : Int) ≤ n ∧ y.2.1.length = (talkParts t false).length ∧ (p ≤ y.2.2 ∧ y.2.2 = p + 1 + 2 * y.1) ∧ ∀ d ∈ y.2.1, d ∈ talkParts t false) (fun y => (n - y.1).toNat) (0, talkParts t false, p + 1) ⟨hn'.1, rfl, ⟨by show p ≤ p + 1; omega, by show p + 1 = p + 1 + 2 * ((0 : Nat) : Int); omega⟩, fun d h => h⟩ (by (refine le_ev [(1, 2)] ?_; simp only [hm, go_sem, ↓reduceIte]; first | done | rfl | exact ⟨rfl, rfl⟩)) ?_
    rintro ⟨i, l, q⟩ ⟨hi, hll, ⟨hq, hq2⟩, hin⟩
    simp only at hi hll hq hq2 hin
    unfold pc153l0
    simp only [hm, go_sem, ↓reduceIte]
    refine ⟨fun hlt => ?_, fun hge => ⟨_, ⟨l, q, rfl, hll, hq, by omega, hin⟩, by (refine le_ev [] ?_; simp only [hm, go_sem, ↓reduceIte]; first | done | rfl | exact ⟨rfl, rfl⟩)⟩⟩
    intro _
    refine c_pick hP (by rfl) (by omega) hc fun a ha => ?_
    simp only [hm, go_sem, ↓reduceIte]
    intro _
    refine c_pick hP (by rfl) (by omega) hc fun b hb => ?_
    have ha' : 0 ≤ a ∧ a < l.length := by unfold Below at ha; omega
    have hb' : 0 ≤ b ∧ b < l.length := by unfold Below at hb; omega
    have han : a.toNat < l.length := by omega
    have hbn : b.toNat < l.length := by omega
    have hga := getD_map (f := Data.row) han
    have hgb := getD_map (f := Data.row) hbn
    have hma := hin _ (List.getElem_mem han)
    have hmb := hin _ (List.getElem_mem hbn)
    generalize l[a.toNat] = da at hga hma
    generalize l[b.toNat] = db at hgb hmb
    simp only [hga, hgb, Data.row, List.length_map, List.length_set, hm, go_sem, ↓reduceIte]
    rw [wrap64 (x := (i : Int) + 1) (by omega) (by omega)]
    have hset : ((l.map Data.row).set a.toNat [.n .i64 db.tsn, .n .i64 db.stream, .n .i64 db.ssn, .b db.first, .b db.last, .b db.loose, .s db.text]).set b.toNat [.n .i64 da.tsn, .n .i64 da.stream, .n .i64 da.ssn, .b da.first, .b da.last, .b da.loose, .s da.text] = ((l.set a.toNat db).set b.toNat da).map Data.row := by
      rw [List.map_set, List.map_set]; rfl
    rw [hset]
    refine ⟨by omega, by omega, by omega, by omega, by omega, by omega, by omega, by omega, (i + 1, (l.set a.toNat db).set b.toNat da, q + 1 + 1), ⟨by simp only; omega, by simp only [List.length_set]; exact hll, ⟨by simp only; omega, by simp only; omega⟩, fun d hd => ?_⟩, by simp only; omega, by simp only [List.length_set]; (refine le_ev [] ?_; simp only [hm, go_sem, ↓reduceIte]; first | done | rfl | exact ⟨rfl, rfl⟩)⟩
    rcases List.mem_or_eq_of_mem_set hd with hd | rfl
    · rcases List.mem_or_eq_of_mem_set hd with hd | rfl
      · exact hin d hd
      · exact hmb
    · exact hma
  rintro t0 ⟨l, q, rfl, hll, hq, hq2, hin⟩
  simp only [hm, go_sem, ↓reduceIte]
  refine c_pick hP (by rfl) (by omega) hc fun u hu => ?_
  simp only [hm, go_sem, ↓reduceIte]
  refine ⟨fun _ => ?_, fun _ => ⟨fun _ => ?_, fun _ => ?_⟩⟩
  · intro _
    refine c_pick hP (by rfl) (by omega) hc fun a ha => ?_
    have ha' : 0 ≤ a ∧ a < l.length := by unfold Below at ha; omega
    have han : a.toNat < l.length := by omega
    have hga := getD_map (f := Data.row) han
    have hma := hin _ (List.getElem_mem han)
    generalize l[a.toNat] = da at hga hma
    simp only [hga, Data.row, hm, go_sem, ↓reduceIte]
    refine ⟨by omega, by omega, by omega, ?_⟩
    have hrow : List.take l.length (l.map Data.row) ++ [[.n .i64 da.tsn, .n .i64 da.stream, .n .i64 da.ssn, .b da.first, .b da.last, .b da.loose, .s da.text]] = (l ++ [da]).map Data.row := by
      rw [List.take_of_length_le (by simp), List.map_append]; rfl
    rw [hrow]
    obtain ⟨r0, k1, k2⟩ := fin (l ++ [da]) (l.length + 1) (q + 1 + 1) 1 (by omega) (by omega) (by simp; omega) (by simp) (fun d h => by
      rcases List.mem_append.1 h with h | h
      · exact hin d h
      · simp only [List.mem_singleton] at h; subst h; exact hma) (by decide)
    exact ⟨_, _, _, 1, r0, rfl, rfl, by decide, rfl, k1, k2⟩
  · intro _
    refine c_pick hP (by rfl) (by omega) hc fun a ha => ?_
    have ha' : 0 ≤ a ∧ a < l.length := by unfold Below at ha; omega
    simp only [hm, go_sem, ↓reduceIte]
    refine ⟨by omega, ?_⟩
    obtain ⟨r0, k1, k2⟩ := fin l a.toNat (q + 1 + 1) 1 (by omega) (by omega) (by omega) (by omega) hin (by decide)
    exact ⟨_, _, _, 1, r0, rfl, rfl, by decide, rfl, k1, k2⟩
  · obtain ⟨r0, k1, k2⟩ := fin l l.length (q + 1) 1 (by omega) (by omega) (by omega) (Nat.le_refl _) hin (by decide)
    exact ⟨_, _, _, 1, r0, rfl, rfl, by decide, rfl, k1, k2⟩
theorem s_l92Parts (code : List UInt8) (p : Int) (t : Talk) (hv : talkB t = true) (hl : t.says.length ≤ 1048576) (hx : ∀ s ∈ t.says, s.text.length ≤ 1048576) (hp : 0 ≤ p ∧ p ≤ 980000) (hc : code.length ≤ 2000) : Spec Try.prog 153 1 [(0, rdB code p)] [.ptr 0 0 0, t.ro] (NamedNew (DrawL code p 50 t)) := by
  refine (s_l92Parts0 code p t hv hl hx hp hc).le fun r hp nx gs ⟨B, sz, L, ⟨l, n, p', h1, h2, h3, h4, h5, h6, h7, h8, h9⟩, e1, e2, e3⟩ => ?_
  subst h1; subst h2; subst h3; subst h4; subst e1; subst e2; subst e3
  have hn : (l.take n).length = n := by rw [List.length_take]; omega
  refine ⟨.sl 1 0 (l.take n).length, [(0, rdB code p'), (1, .row 7 ((l.take n).map Data.row))], 2, [], ⟨_, _, _, ⟨l.take n, p', rfl, rfl, rfl, rfl, h5, h6, by omega, fun d hd => h9 d (List.mem_of_mem_take hd)⟩, rfl, rfl, rfl⟩, fun c hc => ?_⟩
  refine Le.trans (le_prefix 1 n rfl (by rw [List.length_map]; exact h8)) ?_
  rw [hn, List.map_take]
  exact Le.refl _
theorem c_drawL {c : Cx} {f : Nat} {code : List UInt8} {p k : Int} {t : Talk} {s : St} {K : AV → St → Prop} {b : Nat} (hs : Spec c.P f 1 [(0, rdB code p)] [.ptr 0 0 0, t.ro] (NamedNew (DrawL code p k t))) (hb : hget s.hp b = some (rdB code p))
    (h : ∀ (l : List Data) p', p ≤ p' → p' ≤ p + k → l.length ≤ 13 → (∀ d ∈ l, d ∈ talkParts t false) → K (.sl s.nx 0 l.length) ⟨s.sl, (b, rdB code p') :: (s.nx, .row 7 (l.map Data.row)) :: hdel s.hp b, s.nx + 1, s.gs⟩) : Call c f [.ptr b 0 0, t.ro] s K :=
  call_namedNew b hs hb rfl rfl (fun r B sz L ⟨l, p', h1, h2, _⟩ => by subst h2; rfl) fun r B sz L ⟨l, p', h1, h2, h3, h4, h5, h6, h7, h8⟩ => by subst h1; subst h2; subst h3; subst h4; exact h l p' h5 h6 h7 h8
end Go.Cap

/- Parts that follow one another make groups; what an assembly gives of them, in order and in any order. -/
namespace Go.Cap
open Go Go.Proofs
set_option linter.unusedSimpArgs false
set_option linter.unusedVariables false

/-- The parts of a message that is still open. -/
structure PreG (g : List Data) : Prop where
  first : ∀ j (h : j < g.length), g[j].first = decide (j = 0)
  last : ∀ j (h : j + 1 < g.length), g[j].last = false
  like : ∀ j (h : j + 1 < g.length), likeB g[j + 1] g[j] = true
  tsn : ∀ j (h : j + 1 < g.length), g[j + 1].tsn = l3 g[j].tsn 1
theorem PreG.snoc {c : List Data} {d : Data} (h : PreG c) (hl : ∀ x ∈ c, x.last = false) (hf : d.first = decide (c.length = 0)) (hk : ∀ x, c.getLast? = some x → likeB d x = true ∧ d.tsn = l3 x.tsn 1) : PreG (c ++ [d]) := by
  have hlast : ∀ j (hj : j + 1 = c.length), c.getLast? = some (c[j]'(by omega)) := fun j hj => by
    rw [List.getLast?_eq_getElem?, List.getElem?_eq_getElem (by omega)]; congr 2; omega
  refine ⟨fun j hj => ?_, fun j hj => ?_, fun j hj => ?_, fun j hj => ?_⟩
  · rw [List.length_append, List.length_singleton] at hj
    rcases Nat.lt_or_ge j c.length with h1 | h1
    · rw [List.getElem_append_left h1]; exact h.first j h1
    · have : j = c.length := by omega
      subst this
      rw [List.getElem_concat_length rfl, hf]
  · rw [List.length_append, List.length_singleton] at hj
    rw [List.getElem_append_left (by omega)]; exact hl _ (List.getElem_mem _)
  · rw [List.length_append, List.length_singleton] at hj
    rcases Nat.lt_or_ge (j + 1) c.length with h1 | h1
    · rw [List.getElem_append_left h1, List.getElem_append_left (by omega)]; exact h.like j h1
    · have h2 : j + 1 = c.length := by omega
      rw [List.getElem_concat_length h2, List.getElem_append_left (by omega)]
      exact (hk _ (hlast j h2)).1
  · rw [List.length_append, List.length_singleton] at hj
    rcases Nat.lt_or_ge (j + 1) c.length with h1 | h1
    · rw [List.getElem_append_left h1, List.getElem_append_left (by omega)]; exact h.tsn j h1
    · have h2 : j + 1 = c.length := by omega
      rw [List.getElem_concat_length h2, List.getElem_append_left (by omega)]
      exact (hk _ (hlast j h2)).2
theorem PreG.close {c : List Data} {d : Data} (h : PreG (c ++ [d])) (hd : d.last = true) : Grp (c ++ [d]) := by
  refine ⟨by simp, h.first, fun j hj => ?_, h.like, h.tsn⟩
  by_cases h1 : j + 1 = (c ++ [d]).length
  · rw [decide_eq_true h1]
    rw [List.length_append, List.length_singleton] at h1
    have : j = c.length := by omega
    subst this
    rw [List.getElem_concat_length rfl]; exact hd
  · rw [decide_eq_false h1]; exact h.last j (by omega)
/-- Parts, cut into groups and what is still open. -/
structure Cut (P : List Data) (gs : List (List Data)) (cur : List Data) : Prop where
  eq : P = gs.flatten ++ cur
  grp : ∀ g ∈ gs, Grp g
  pre : PreG cur
  lst : ∀ x ∈ cur, x.last = false
  said : saidSt P = (gs.map msgG, cur.flatMap Data.text)
  rank : ∀ i (h : i < gs.length), (hd gs[i]).loose = false → (hd gs[i]).ssn = ((gs.take i).countP (ord (hd gs[i]).stream) : Nat)
  crank : cur ≠ [] → (hd cur).loose = false → (hd cur).ssn = (gs.countP (ord (hd cur).stream) : Nat)
  cnt : ∀ s, ssnIn P s = gs.countP (ord s) + (if cur ≠ [] ∧ ord s cur = true then 1 else 0)
theorem Cut.nil : Cut [] [] [] := ⟨rfl, fun g h => (List.not_mem_nil h).elim, ⟨fun j h => by simp at h, fun j h => by simp at h, fun j h => by simp at h, fun j h => by simp at h⟩, fun x h => (List.not_mem_nil h).elim, rfl, fun i h => by simp at h, fun h => absurd rfl h, fun s => by simp [ssnIn]⟩
theorem flat_last {gs : List (List Data)} (h : ∀ g ∈ gs, Grp g) {x : Data} (hx : gs.flatten.getLast? = some x) : x.last = true := by
  rcases gs.eq_nil_or_concat with rfl | ⟨g0, g, rfl⟩
  · simp at hx
  · rw [List.concat_eq_append] at h hx
    have hg := h g (by simp)
    rcases g.eq_nil_or_concat with rfl | ⟨c, y, rfl⟩
    · exact absurd rfl hg.ne
    · rw [List.concat_eq_append] at hx hg
      rw [List.flatten_append, List.flatten_singleton, ← List.append_assoc, List.getLast?_concat] at hx
      cases hx
      have := hg.last c.length (by simp)
      rw [List.getElem_concat_length rfl] at this
      rw [this]; simp
theorem hd_app {c : List Data} {d : Data} (h : c ≠ []) : hd (c ++ [d]) = hd c := by cases c with
  | nil => exact absurd rfl h
  | cons a l => rfl
theorem Cut.next {P : List Data} {gs : List (List Data)} {cur : List Data} {d : Data} (h : Cut P gs cur) (hm : mayB P d = true) (ht : ∀ x, P.getLast? = some x → d.tsn = l3 x.tsn 1) : ∃ gs' cur', Cut (P ++ [d]) gs' cur' := by
  -- what is known of the part that comes
  have hnew : cur = [] → d.first = true ∧ (d.loose = true ∨ d.ssn = (ssnIn P d.stream : Nat)) := fun hc => by
    have hP : P = gs.flatten := by rw [h.eq, hc, List.append_nil]
    unfold mayB at hm
    cases hx : P.getLast? with
    | none => rw [hx] at hm; simpa using hm
    | some x =>
      rw [hx] at hm
      have := flat_last h.grp (hP ▸ hx)
      simp only [this, if_true] at hm
      simpa using hm
  have hold : ∀ x, cur.getLast? = some x → d.first = false ∧ likeB d x = true ∧ d.tsn = l3 x.tsn 1 := fun x hx => by
    have hP : P.getLast? = some x := by rw [h.eq, List.getLast?_append, hx]; rfl
    have hxl := h.lst x (List.mem_of_getLast? hx)
    unfold mayB at hm
    rw [hP] at hm
    simp only [hxl, Bool.false_eq_true, if_false, Bool.and_eq_true, Bool.not_eq_true'] at hm
    exact ⟨hm.1, hm.2, ht x hP⟩
  have hfirst : d.first = decide (cur.length = 0) := by
    by_cases hc : cur = []
    · rw [(hnew hc).1, hc]; rfl
    · obtain ⟨x, hx⟩ : ∃ x, cur.getLast? = some x := by cases hg : cur.getLast? with
        | none => exact absurd (List.getLast?_eq_none_iff.1 hg) hc
        | some x => exact ⟨x, rfl⟩
      rw [(hold x hx).1, decide_eq_false (fun e => hc (List.eq_nil_of_length_eq_zero e))]
  have hpre : PreG (cur ++ [d]) := h.pre.snoc h.lst hfirst fun x hx => (hold x hx).2
  have hhd : hd (cur ++ [d]) = if cur = [] then d else hd cur := by
    split
    · rename_i hc; rw [hc]; rfl
    · rename_i hc; exact hd_app hc
  have hrk : (hd (cur ++ [d])).loose = false → (hd (cur ++ [d])).ssn = (gs.countP (ord (hd (cur ++ [d])).stream) : Nat) := by
    by_cases hc : cur = []
    · rw [hhd, if_pos hc]
      intro hl
      rcases (hnew hc).2 with h1 | h1
      · rw [h1] at hl; cases hl
      · rw [h1, h.cnt, hc]; simp
    · rw [hhd, if_neg hc]; exact h.crank hc
  have hcnt : ∀ s, ssnIn (P ++ [d]) s = gs.countP (ord s) + (if ord s (cur ++ [d]) = true then 1 else 0) := fun s => by
    rw [ssnIn_app, h.cnt s]
    by_cases hc : cur = []
    · have h1 := (hnew hc).1
      subst hc
      simp [ssnIn, ord, h1, hd, List.countP_cons]
    · have h1 : d.first = false := by rw [hfirst, decide_eq_false (fun e => hc (List.eq_nil_of_length_eq_zero e))]
      have h2 : ord s (cur ++ [d]) = ord s cur := by unfold ord; rw [hd_app hc]
      rw [h2]
      simp [ssnIn, h1, hc, List.countP_cons]
  have htxt : (cur ++ [d]).flatMap Data.text = cur.flatMap Data.text ++ d.text := by simp
  by_cases hdl : d.last = true
  · have hg := hpre.close hdl
    obtain ⟨k1, k2, k3⟩ := like_mem hg (d := d) (by simp)
    refine ⟨gs ++ [cur ++ [d]], [], ?_⟩
    refine ⟨by rw [h.eq]; simp, fun g hgm => ?_, Cut.nil.pre, fun x hx => (List.not_mem_nil hx).elim, ?_, fun i hi => ?_, fun hx => absurd rfl hx, fun s => ?_⟩
    · rcases List.mem_append.1 hgm with hgm | hgm
      · exact h.grp g hgm
      · simp only [List.mem_singleton] at hgm; subst hgm; exact hg
    · rw [saidSt_app, h.said]
      simp only [List.foldl_cons, List.foldl_nil, saidStep, hdl, if_true, List.map_append, List.map_cons, List.map_nil, List.flatMap_nil]
      unfold msgG
      rw [← k1, ← k2, ← k3, htxt]
    · rw [List.length_append, List.length_singleton] at hi
      rcases Nat.lt_or_ge i gs.length with h1 | h1
      · rw [List.getElem_append_left h1, List.take_append_of_le_length (by omega)]; exact h.rank i h1
      · have : i = gs.length := by omega
        subst this
        rw [List.getElem_concat_length rfl, List.take_left]
        exact hrk
    · rw [hcnt, List.countP_append, List.countP_cons, List.countP_nil]; simp
  · have hdl' : d.last = false := by simpa using hdl
    refine ⟨gs, cur ++ [d], ?_⟩
    refine ⟨by rw [h.eq, List.append_assoc], h.grp, hpre, fun x hx => ?_, ?_, h.rank, fun _ => hrk, fun s => ?_⟩
    · rcases List.mem_append.1 hx with hx | hx
      · exact h.lst x hx
      · simp only [List.mem_singleton] at hx; subst hx; exact hdl'
    · rw [saidSt_app, h.said]
      simp only [List.foldl_cons, List.foldl_nil, saidStep, hdl', Bool.false_eq_true, if_false, htxt]
    · rw [hcnt]; simp
/-- Parts of a side: numbered, each one may follow the ones ahead of it. -/
def SeqP (f : Int) (n : Nat) (P : List Data) : Prop := ∀ i (hi : i < P.length), dataB P[i] = true ∧ P[i].tsn = l3 f i ∧ P[i].stream < n ∧ mayB (P.take i) P[i] = true
theorem SeqP.str {f : Int} {n : Nat} {P : List Data} (h : SeqP f n P) : ∀ d ∈ P, 0 ≤ d.stream ∧ d.stream < n := fun d hd => by
  obtain ⟨i, hi, rfl⟩ := List.getElem_of_mem hd
  exact ⟨(data_ok (h i hi).1).2.1.1, (h i hi).2.2.1⟩
theorem SeqP.ok {f : Int} {n : Nat} {P : List Data} (h : SeqP f n P) : ∀ d ∈ P, dataB d = true := fun d hd => by
  obtain ⟨i, hi, rfl⟩ := List.getElem_of_mem hd
  exact (h i hi).1
end Go.Cap

/- Plain facts on assemblies: validity, what is told, what is left. -/
namespace Go.Cap
open Go Go.Proofs
set_option linter.unusedSimpArgs false
set_option linter.unusedVariables false

theorem partsLoop_get {n : Nat} {p : List Data} : ∀ (l : List Data) (i : Nat), partsLoop n p i l = true → ∀ j (hj : j < l.length), partOk n (p.take (i + j)) l[j] = true
  | [], _, _, j, hj => by simp at hj
  | d :: l, i, h, 0, hj => by simp only [partsLoop, Bool.and_eq_true] at h; exact h.1
  | d :: l, i, h, j + 1, hj => by
    simp only [partsLoop, Bool.and_eq_true] at h
    have := partsLoop_get l (i + 1) h.2 j (by simpa using hj)
    simpa [Nat.add_assoc, Nat.add_comm 1 j] using this
/-- What a valid assembly is. -/
structure AVal (a : Asm) : Prop where
  n4 : 1 ≤ a.next.length ∧ a.next.length ≤ 4
  next : ∀ n ∈ a.next, serialB n = true
  ok : ∀ d ∈ a.parts, dataB d = true ∧ d.stream < a.next.length
  nd : (a.parts.map Data.tsn).Nodup
theorem asm_val {a : Asm} : asmB a = true ↔ AVal a ∧ a.parts.length ≤ 12 := by
  constructor
  · intro h
    obtain ⟨h1, h2, h3, h4⟩ := asm_ok h
    refine ⟨⟨h1, h3, h4, ?_⟩, h2⟩
    simp only [asmB, Bool.and_eq_true] at h
    have key := partsLoop_get a.parts 0 h.2
    refine List.pairwise_iff_getElem.2 fun i j hi hj hij e => ?_
    rw [List.length_map] at hi hj
    rw [List.getElem_map, List.getElem_map] at e
    have := key j hj
    simp only [partOk, Nat.zero_add, Bool.and_eq_true, Option.isNone_iff_eq_none] at this
    refine (atIx_none _ _).1 this.2 a.parts[i] ?_ e
    exact List.mem_take_iff_getElem.2 ⟨i, by omega, rfl⟩
  · rintro ⟨h, hl⟩
    have hall : a.next.all serialB = true := List.all_eq_true.2 h.next
    have hps : partsLoop a.next.length a.parts 0 a.parts = true := by
      refine partsLoop_of _ 0 fun j hj => ?_
      rw [Nat.zero_add]
      obtain ⟨k1, k2⟩ := h.ok _ (List.getElem_mem hj)
      have k3 : atIx (a.parts.take j) a.parts[j].tsn = none := by
        rw [atIx_none]
        intro d hd e
        obtain ⟨i, hi, rfl⟩ := List.mem_take_iff_getElem.1 hd
        have := List.pairwise_iff_getElem.1 h.nd i j (by rw [List.length_map]; omega) (by rw [List.length_map]; exact hj) (by omega)
        rw [List.getElem_map, List.getElem_map] at this
        exact this e
      unfold partOk
      rw [k1, k3, decide_eq_true k2]; rfl
    unfold asmB
    rw [hall, hps, decide_eq_true hl, decide_eq_true h.n4]; rfl
theorem restFrom_sub (p : List Nat) : ∀ (l : List Data) (i : Nat), (restFrom p i l).Sublist l
  | [], i => by simp [restFrom]
  | d :: l, i => by
    simp only [restFrom]
    split
    · exact (restFrom_sub p l (i + 1)).cons _
    · exact (restFrom_sub p l (i + 1)).cons_cons _
theorem takeOut_nlen (a : Asm) (p : List Nat) : (takeOut a p).next.length = a.next.length := by unfold takeOut; simp only; split <;> simp
theorem takeOut_val {a : Asm} {p : List Nat} (h : AVal a) : AVal (takeOut a p) := by
  have hn := takeOut_nlen a p
  refine ⟨by rw [hn]; exact h.n4, fun n hm => ?_, fun d hd => by rw [hn]; exact h.ok d (restFrom_mem p a.parts 0 d hd), h.nd.sublist ((restFrom_sub p a.parts 0).map _)⟩
  unfold takeOut at hm
  simp only at hm
  split at hm
  · exact h.next n hm
  · rcases List.mem_or_eq_of_mem_set hm with hm | rfl
    · exact h.next n hm
    · exact serial_l3 _ _
/-- Settling, step by step. -/
inductive Stl : Asm → List Msg → Asm → List Msg → Prop
  | stop (a : Asm) (ms : List Msg) : due a = none → Stl a ms a ms
  | step (a : Asm) (ms : List Msg) (p : List Nat) (a' : Asm) (ms' : List Msg) : AsmOk a → due a = some p → Stl (takeOut a p) (ms ++ [msgOf a p]) a' ms' → Stl a ms a' ms'
theorem settle_stl : ∀ (k : Nat) (a : Asm) (ms : List Msg), AsmOk a → a.parts.length < k → Stl a ms (settle k a ms).1 (settle k a ms).2
  | 0, a, ms, _, h => by omega
  | k + 1, a, ms, ok, h => by
    rw [settle]
    cases hd : due a with
    | none => exact .stop a ms hd
    | some p =>
      have hlt := takeOut_lt (due_ok ok hd)
      exact .step a ms p _ _ ok hd (settle_stl k _ _ (takeOut_ok ok) (by omega))
theorem Stl.val {a a' : Asm} {ms ms' : List Msg} (h : Stl a ms a' ms') : AVal a → AVal a' ∧ a'.next.length = a.next.length ∧ a'.parts.length ≤ a.parts.length := by
  induction h with
  | stop a ms _ => intro h; exact ⟨h, rfl, Nat.le_refl _⟩
  | step a ms p a' ms' ok hd _ ih =>
    intro h
    obtain ⟨h1, h2, h3⟩ := ih (takeOut_val h)
    exact ⟨h1, by rw [h2, takeOut_nlen], Nat.le_trans h3 (restFrom_len p a.parts 0)⟩
theorem add_val {a : Asm} {d : Data} (h : AVal a) (hd : dataB d = true) (hs : d.stream < a.next.length) (ha : atIx a.parts d.tsn = none) : AVal ⟨a.next, a.parts ++ [d]⟩ := by
  refine ⟨h.n4, h.next, fun x hx => ?_, ?_⟩
  · rcases List.mem_append.1 hx with hx | hx
    · exact h.ok x hx
    · simp only [List.mem_singleton] at hx; subst hx; exact ⟨hd, hs⟩
  · simp only [List.map_append, List.map_cons, List.map_nil]
    rw [List.nodup_append]
    refine ⟨h.nd, by simp, fun x hx y hy => ?_⟩
    simp only [List.mem_singleton] at hy
    subst hy
    obtain ⟨e, he, rfl⟩ := List.mem_map.1 hx
    exact (atIx_none _ _).1 ha e he
/-- What AsmAdd does, case by case. -/
inductive AddCase (a : Asm) (d : Data) : Prop
  | bad (h : asmAdd a d = (⟨[], []⟩, [], 3)) (hb : ¬ (asmB a = true ∧ dataB d = true ∧ d.stream < a.next.length))
  | twice (h : asmAdd a d = (a, [], 1)) (hv : asmB a = true) (hd : dataB d = true) (hs : d.stream < a.next.length) (ha : (atIx a.parts d.tsn).isSome = true)
  | full (h : asmAdd a d = (a, [], 2)) (hv : asmB a = true) (hd : dataB d = true) (hs : d.stream < a.next.length) (ha : atIx a.parts d.tsn = none) (hl : 12 ≤ a.parts.length)
  | done (a' : Asm) (ms : List Msg) (h : asmAdd a d = (a', ms, 0)) (hv : asmB a = true) (hd : dataB d = true) (hs : d.stream < a.next.length) (ha : atIx a.parts d.tsn = none) (hl : a.parts.length < 12)
      (ok : AsmOk ⟨a.next, a.parts ++ [d]⟩) (st : Stl ⟨a.next, a.parts ++ [d]⟩ [] a' ms)
theorem add_case (a : Asm) (d : Data) : AddCase a d := by
  by_cases hc : asmB a = true ∧ dataB d = true ∧ d.stream < a.next.length
  · obtain ⟨h1, h2, h3⟩ := hc
    have e : ¬ (!asmB a || !dataB d || decide ((a.next.length : Int) ≤ d.stream)) = true := by simp [h1, h2]; omega
    cases ha : atIx a.parts d.tsn with
    | some j => exact .twice (by unfold asmAdd; rw [if_neg e, if_pos (by simp [ha])]) h1 h2 h3 (by simp [ha])
    | none =>
      rcases Nat.lt_or_ge a.parts.length 12 with hl | hl
      · have ok := add_ok h1 h2 h3
        exact .done _ _ (by unfold asmAdd; rw [if_neg e, if_neg (by simp [ha]), if_neg (by omega)]) h1 h2 h3 ha hl ok (settle_stl (a.parts.length + 2) _ [] ok (by simp))
      · exact .full (by unfold asmAdd; rw [if_neg e, if_neg (by simp [ha]), if_pos hl]) h1 h2 h3 ha hl
  · refine .bad ?_ hc
    unfold asmAdd
    rw [if_pos]
    cases h1 : asmB a <;> cases h2 : dataB d <;> simp [h1, h2] at hc ⊢
    exact hc
/-- An assembly stays valid. -/
theorem add_valid {a : Asm} {d : Data} (h : (asmAdd a d).2.2 ≠ 3) : asmB (asmAdd a d).1 = true ∧ (asmAdd a d).1.next.length = a.next.length := by
  cases add_case a d with
  | bad e hb => rw [e] at h; exact absurd rfl h
  | twice e hv hd hs ha => rw [e]; exact ⟨hv, rfl⟩
  | full e hv hd hs ha hl => rw [e]; exact ⟨hv, rfl⟩
  | done a' ms e hv hd hs ha hl ok st =>
    rw [e]
    obtain ⟨h1, h2, h3⟩ := st.val (add_val (asm_val.1 hv).1 hd hs ha)
    simp only [List.length_append, List.length_singleton] at h3
    exact ⟨asm_val.2 ⟨h1, by simp only; omega⟩, h2⟩
end Go.Cap

/- Contracts: TalkSaid of the program and of the reference. -/
namespace Go.Cap
open Go Go.Proofs
set_option maxRecDepth 100000
set_option linter.unusedSimpArgs false
set_option linter.unusedVariables false
attribute [local irreducible] Call Run Spec Le

def cntR (f : List Data) : List RV := [.n .i64 (ssnIn f 0), .n .i64 (ssnIn f 1), .n .i64 (ssnIn f 2), .n .i64 (ssnIn f 3)]
@[go_sem] theorem cnt_len (f : List Data) : (cnt f).length = 4 := (rfl)
@[go_sem] theorem cntR_len (f : List Data) : (cntR f).length = 4 := (rfl)
theorem s_sameMessages (l : List Msg) : Spec Try.prog 17 0 [] [.r (.ro none (l.map Msg.row)), .r (.ro none (l.map Msg.row))] (fun r _ _ _ => r = .bo true) := by
  refine mk17 rfl fun c hP hm => ?_
  unfold pc17
  simp only [go_sem, ↓reduceIte]
  intro hlen _
  refine lp_wpc (α := Nat) (fun i => ⟨[(0, .r (.ro none (l.map Msg.row))), (1, .r (.ro none (l.map Msg.row))), (5, .i i)], [], 0, []⟩) (fun i => i ≤ l.length) (fun i => l.length - i) 0 (Nat.zero_le _) (Le.refl _) ?_
  intro i hi
  unfold pc17l0
  simp only [go_sem, ↓reduceIte]
  intro _
  intro hlt
  have hil : i < l.length := by omega
  simp only [Int.toNat_natCast, getD_map hil, Msg.row, go_sem, ↓reduceIte]
  rw [wrap64 (by omega) (by omega)]
  exact ⟨⟨by omega, by omega⟩, ⟨by omega, by omega⟩, i + 1, hil, by omega, Le.refl _⟩
end Go.Cap

/- The parts of a talk are those of a valid side. -/
namespace Go.Cap
open Go Go.Proofs
set_option maxRecDepth 100000
set_option linter.unusedSimpArgs false
set_option linter.unusedVariables false
attribute [local irreducible] Call Run Spec Le

theorem mayB_first {f : List Data} {d : Data} (hl : ∀ x, f.getLast? = some x → x.last = true) (hd : d.first = true) (hs : d.loose = true ∨ d.ssn = ssnIn f d.stream) : mayB f d = true := by
  unfold mayB
  cases h : f.getLast? with
  | none => simp [hd]; rcases hs with hs | hs <;> simp [hs]
  | some x =>
    have := hl x h
    simp only [this, if_true]
    simp [hd]; rcases hs with hs | hs <;> simp [hs]
theorem mayB_next {f : List Data} {x d : Data} (hl : f.getLast? = some x) (hx : x.last = false) (hd : d.first = false) (hk : likeB d x = true) : mayB f d = true := by
  unfold mayB
  rw [hl]
  simp [hx, hd, hk]
/-- Every part may follow the ones ahead of it. -/
structure Fit (f : Int) (streams : Int) (out : List Data) : Prop where
  ok : ∀ i (hi : i < out.length), dataB out[i] = true ∧ out[i].tsn = l3 f i ∧ out[i].stream < streams ∧ mayB (out.take i) out[i] = true
  last : ∀ x, out.getLast? = some x → x.last = true
theorem Fit.next {z : Nat} (hz : 1 ≤ z ∧ z ≤ 20) {f streams : Int} {out : List Data} (h : Fit f streams out) (ho : out.length ≤ 60000) {s : Say} (h1 : 1 ≤ s.text.length) (hs : 0 ≤ s.stream ∧ s.stream < streams) (hs4 : streams ≤ 4) : Fit f streams (out ++ nextParts z f out s) := by
  have hnl : (nextParts z f out s).length = manyN s.text.length z := nextParts_len ..
  refine ⟨fun i hi => ?_, fun x hx => ?_⟩
  · rcases Nat.lt_or_ge i out.length with hio | hio
    · rw [List.getElem_append_left hio, List.take_append_of_le_length (by omega)]
      exact h.ok i hio
    · obtain ⟨j, rfl⟩ : ∃ j, i = out.length + j := ⟨i - out.length, by omega⟩
      have hj : j < manyN s.text.length z := by rw [List.length_append, hnl] at hi; omega
      have hget : (out ++ nextParts z f out s)[out.length + j] = part z (l3 f out.length) (ssnOf out s) s j := by
        have h2 : (out ++ nextParts z f out s)[out.length + j]? = some (part z (l3 f out.length) (ssnOf out s) s j) := by
          rw [List.getElem?_append_right (by omega), Nat.add_sub_cancel_left]; exact chunks_get hj
        rw [List.getElem?_eq_getElem hi] at h2
        exact Option.some.inj h2
      have htake : (out ++ nextParts z f out s).take (out.length + j) = out ++ (nextParts z f out s).take j := by
        rw [List.take_append, List.take_of_length_le (by omega), Nat.add_sub_cancel_left]
      rw [hget, htake]
      have hlt := (many_lt hz.1).1 hj
      have hadd : (j + 1) * z = j * z + z := by rw [Nat.add_mul, Nat.one_mul]
      have hssn := ssnIn_le out s.stream
      have hrange := l3_range (l3 f out.length) j
      refine ⟨?_, ?_, hs.2, ?_⟩
      · have k1 : serialB (l3 (l3 f out.length) j) = true := serial_l3 _ _
        have k2 : serialB s.stream = true := by simp only [serialB, decide_eq_true_eq]; omega
        have k3 : serialB (ssnOf out s) = true := by unfold ssnOf; simp only [serialB, decide_eq_true_eq]; split <;> omega
        have k4 : 1 ≤ (part z (l3 f out.length) (ssnOf out s) s j).text.length ∧ (part z (l3 f out.length) (ssnOf out s) s j).text.length ≤ 20 := by
          simp only [part, List.length_drop, List.length_take]; omega
        unfold dataB
        rw [decide_eq_true k4]
        show (serialB (l3 (l3 f out.length) j) && serialB s.stream && serialB (ssnOf out s) && true) = true
        rw [k1, k2, k3]; rfl
      · simp only [part, l3_l3]; congr 1
      · cases j with
        | zero =>
          rw [List.take_zero, List.append_nil]
          refine mayB_first h.last (by simp [part]) ?_
          simp only [part, ssnOf]
          cases s.loose <;> simp
        | succ j =>
          have hj' : j < manyN s.text.length z := by omega
          refine mayB_next (x := part z (l3 f out.length) (ssnOf out s) s j) ?_ ?_ (by simp [part]) (by simp [likeB, part])
          · rw [show (nextParts z f out s).take (j + 1) = (nextParts z f out s).take j ++ [part z (l3 f out.length) (ssnOf out s) s j] from take_chunks hj', ← List.append_assoc]
            exact List.getLast?_concat
          · simp only [part, decide_eq_false_iff_not]; omega
  · have hm : 0 < manyN s.text.length z := (many_lt hz.1).2 (by omega)
    obtain ⟨m, hmm⟩ : ∃ m, manyN s.text.length z = m + 1 := ⟨manyN s.text.length z - 1, by omega⟩
    have hn : ¬ (m + 1) * z < s.text.length := fun h => by have := (many_lt hz.1).2 h; omega
    unfold nextParts chunks at hx
    rw [hmm, List.range_succ, List.map_append, ← List.append_assoc, List.map_cons, List.map_nil, List.getLast?_concat] at hx
    cases hx
    simp only [part, decide_eq_true_eq]; omega
theorem fit_parts {z : Nat} (hz : 1 ≤ z ∧ z ≤ 20) {f streams : Int} (hs4 : streams ≤ 4) {byB : Bool} : ∀ (l : List Say) (out : List Data), (∀ s ∈ l, s.byB = byB → 1 ≤ s.text.length ∧ s.text.length ≤ 60 ∧ 0 ≤ s.stream ∧ s.stream < streams) → out.length + 60 * l.length ≤ 60000 → Fit f streams out → Fit f streams (partsAcc z f byB l out)
  | [], out, _, _, h => h
  | s :: l, out, hl, hb, h => by
    have hl' : ∀ x ∈ l, x.byB = byB → 1 ≤ x.text.length ∧ x.text.length ≤ 60 ∧ 0 ≤ x.stream ∧ x.stream < streams := fun x hx => hl x (List.mem_cons_of_mem _ hx)
    rw [List.length_cons] at hb
    simp only [partsAcc]
    split
    · rename_i hbb
      obtain ⟨q1, q2, q3, q4⟩ := hl s (List.mem_cons_self ..) hbb
      have ml := many_le2 (n := s.text.length) hz.1
      exact fit_parts hz hs4 l _ hl' (by rw [List.length_append, nextParts_len]; omega) (h.next hz (by omega) q1 ⟨q3, q4⟩ hs4)
    · exact fit_parts hz hs4 l _ hl' (by omega) h
def Talk.init (t : Talk) (byB : Bool) : Init := if byB then t.b else t.a
theorem init_ok {t : Talk} (hv : talkB t = true) (byB : Bool) : initB (t.init byB) = true := by
  simp only [talkB, talkHead, Bool.and_eq_true] at hv
  cases byB
  · exact hv.1.1.1.1.2
  · exact hv.1.1.1.2
theorem talk_fit {t : Talk} (hv : talkB t = true) (byB : Bool) : Fit (t.init byB).tsn (t.init byB).streams (talkParts t byB) := by
  obtain ⟨hsz, hlen, hsays, hta, htb, hsa, hsb⟩ := talk_ok hv
  unfold talkParts
  rw [if_pos hv]
  have e : t.tsn byB = (t.init byB).tsn := by cases byB <;> rfl
  rw [e]
  refine fit_parts (by omega) ?_ t.says [] ?_ (by simp only [List.length_nil]; omega) ⟨fun i hi => by simp at hi, fun x hx => by simp at hx⟩
  · cases byB <;> simp [Talk.init] <;> omega
  · intro s hs hb
    have := hsays s hs
    rw [hb] at this
    cases byB <;> simpa [Talk.init] using this
end Go.Cap

/- The parts of a talk are a side's. -/
namespace Go.Cap
open Go Go.Proofs
set_option linter.unusedSimpArgs false
set_option linter.unusedVariables false

/-- The parts of a talk, in any order. -/
theorem talk_seq {t : Talk} (hv : talkB t = true) (byB : Bool) : ∃ n : Nat, (t.init byB).streams = n ∧ (1 ≤ n ∧ n ≤ 4) ∧ SeqP (t.init byB).tsn n (talkParts t byB) ∧ ∀ x, (talkParts t byB).getLast? = some x → x.last = true := by
  have hi := init_ok hv byB
  have hf := talk_fit hv byB
  simp only [initB, Bool.and_eq_true, decide_eq_true_eq] at hi
  obtain ⟨⟨⟨i1, i2, i3, i4⟩, _⟩, i6⟩ := hi
  refine ⟨(t.init byB).streams.toNat, by omega, by omega, fun i h => ?_, hf.last⟩
  obtain ⟨k1, k2, k3, k4⟩ := hf.ok i h
  exact ⟨k1, k2, by omega, k4⟩
end Go.Cap

/- Contracts: an assembly is drawn. -/
namespace Go.Cap
open Go Go.Proofs
set_option maxRecDepth 100000
set_option linter.unusedSimpArgs false
set_option linter.unusedVariables false
attribute [local irreducible] Call Run Spec Le

/-- An assembly behind some draws, in two new blocks. -/
def DrawA (code : List UInt8) (p : Int) (k : Int) : AV → List (Nat × Blk) → Nat → List Nat → Prop := fun r hp nx gs => ∃ a : Asm, ∃ p', r = .agg [.sl 1 0 a.next.length, .sl 2 0 a.parts.length] ∧ hp = [(0, rdB code p'), (1, .row 1 (a.next.map intRow)), (2, .row 7 (a.parts.map Data.row))] ∧ nx = 3 ∧ gs = [] ∧
  p ≤ p' ∧ p' ≤ p + k ∧ a.next.length ≤ 5 ∧ a.parts.length ≤ 26 ∧ ∀ d ∈ a.parts, d.text.length ≤ 200
theorem c_drawT2 {c : Cx} {f : Nat} {code : List UInt8} {p k : Int} {s : St} {K : AV → St → Prop} {b : Nat} (hs : Spec c.P f 1 [(0, rdB code p)] [.ptr 0 0 0] (NamedNew (DrawTV code p k))) (hb : hget s.hp b = some (rdB code p))
    (h : ∀ (t : Talk) p', p ≤ p' → p' ≤ p + k → talkB t = true → K (t.av (.sl s.nx 0 t.says.length)) ⟨s.sl, (b, rdB code p') :: (s.nx, .row 4 (t.says.map Say.row)) :: hdel s.hp b, s.nx + 1, s.gs⟩) : Call c f [.ptr b 0 0] s K :=
  call_namedNew b hs hb rfl rfl (fun r B sz L ⟨t, p', h1, h2, _⟩ => by subst h2; rfl) fun r B sz L ⟨t, p', h1, h2, h3, h4, h5, h6, h7⟩ => by subst h1; subst h2; subst h3; subst h4; exact h t p' h5 h6 h7
theorem s_l92Asm (code : List UInt8) (p : Int) (hp : 0 ≤ p ∧ p ≤ 900000) (hc : code.length ≤ 2000) : Spec Try.prog 68 1 [(0, rdB code p)] [.ptr 0 0 0] (DrawA code p 300) := by
  refine Spec.le (Q := fun r hp nx gs => ∃ a : Asm, ∃ p' b1 b2, (b1 ≠ 0 ∧ b2 ≠ 0 ∧ b1 ≠ b2) ∧ r = .agg [.sl b1 0 a.next.length, .sl b2 0 a.parts.length] ∧ hget hp 0 = some (rdB code p') ∧ hget hp b1 = some (.row 1 (a.next.map intRow)) ∧ hget hp b2 = some (.row 7 (a.parts.map Data.row)) ∧ p ≤ p' ∧ p' ≤ p + 300 ∧ a.next.length ≤ 5 ∧ a.parts.length ≤ 26 ∧ ∀ d ∈ a.parts, d.text.length ≤ 200) ?_ ?_
  rotate_left
  · rintro r hp nx gs ⟨a, p', b1, b2, ⟨n1, n2, n3⟩, rfl, h0, h1, h2, hb⟩
    refine ⟨.agg [.sl 1 0 a.next.length, .sl 2 0 a.parts.length], [(0, rdB code p'), (1, .row 1 (a.next.map intRow)), (2, .row 7 (a.parts.map Data.row))], 3, [], ⟨a, p', rfl, rfl, rfl, rfl, hb⟩, fun c hc => le_ev [(1, b1), (2, b2)] ?_⟩
    simp only [hc, go_sem, ↓reduceIte, h0, h1, h2, n1, n2, n3, rdB, List.mem_cons, List.not_mem_nil, or_false, not_false_eq_true, and_self]
    exact fun e => n3 e.symm
  refine mr68 rfl fun c hP hm => ?_
  unfold pc68
  refine run_seq (run_wpc _ _ _ _ _ ?_)
  simp only [hm, go_sem, ↓reduceIte]
  refine run_seq (run_wpc _ _ _ _ _ ?_)
  simp only [hm, go_sem, ↓reduceIte]
  refine c_drawT2 (hP ▸ s_l92TalkV code p (by omega) hc) rfl fun t p1 h1 h2 hv => ?_
  obtain ⟨_, t2, t3, _, _, t6, t7⟩ := talk_ok hv
  simp only [Talk.av, hm, go_sem, ↓reduceIte]
  refine run_frz 2 rfl (by first | (simp only [hm, List.length_map, go_sem, ↓reduceIte]; done) | (simp only [hm, List.length_map, go_sem, ↓reduceIte]; omega)) (by first | (simp only [hm, List.length_map, go_sem, ↓reduceIte]; done) | (simp only [hm, List.length_map, go_sem, ↓reduceIte]; omega)) ?_; simp only [hm, take_map_len, List.drop_zero, go_sem, ↓reduceIte]
  have htv : ∀ d ∈ talkParts t false, dataB d = true ∧ d.stream < t.a.streams := fun d hd => by
    obtain ⟨n, en, hn, hseq, _⟩ := talk_seq hv false
    simp only [Talk.init, Bool.false_eq_true, if_false] at en
    exact ⟨hseq.ok d hd, by rw [en]; exact (hseq.str d hd).2⟩
  obtain ⟨n, en⟩ : ∃ n : Nat, t.a.streams = n := ⟨t.a.streams.toNat, by omega⟩
  refine run_seq (run_wpc _ _ _ _ _ ?_)
  simp only [en, hm, go_sem, ↓reduceIte]
  refine call_new2 (hP ▸ s_specAsmNew1 n (by omega)) rfl (intClosed _) (dataClosed _) (vws_self _ _ rfl) ?_
  simp only [hm, go_sem, ↓reduceIte]
  refine run_seq (run_wpc _ _ _ _ _ ?_)
  rw [← en]
  simp only [hm, go_sem, ↓reduceIte]
  refine c_drawL (hP ▸ s_l92Parts code p1 t hv (by omega) (fun s hs => by have := t3 s hs; omega) (by omega) hc) rfl fun l p2 k1 k2 k3 k4 => ?_
  simp only [hm, go_sem, ↓reduceIte]
  refine run_seq (run_wpc _ _ _ _ _ ?_)
  simp only [hm, go_sem, ↓reduceIte]
  refine run_exit 0 (fun t0 => ∃ (a : Asm) (q : Int), t0 = ⟨[(0, .ptr 0 0 0), (2, .ptr 1 0 0), (4, .ptr 2 0 0)], [(0, rdB code q), (4, .row 7 (a.parts.map Data.row)), (3, .row 1 (a.next.map intRow)), (2, .var [.sl 3 0 a.next.length, .sl 4 0 a.parts.length]), (1, .var [.r .nil, .r .nil])], 5, []⟩ ∧ asmB a = true ∧ p ≤ q ∧ q ≤ p + 200) ?_ ?_
  · refine lp_wpc (α := Nat × Asm × Int) (fun y => ⟨[(0, .ptr 0 0 0), (2, .ptr 1 0 0), (4, .ptr 2 0 0), (6, .sl 5 0 l.length), (7, .i y.1)], [(0, rdB code y.2.2), (4, .row 7 (y.2.1.parts.map Data.row)), (3, .row 1 (y.2.1.next.map intRow)), (2, .var [.sl 3 0 y.2.1.next.length, .sl 4 0 y.2.1.parts.length]), (1, .var [.r .nil, .r .nil]), (5, .row 7 (l.map Data.row))], 6, []⟩)
      (fun y => y.1 ≤ l.length ∧ asmB y.2.1 = true ∧ y.2.1.next.length = n ∧ p ≤ y.2.2 ∧ y.2.2 = p2 + y.1) (fun y => l.length - y.1) (0, asmNew n, p2) ⟨Nat.zero_le _, ?_, by simp [asmNew], by show p ≤ p2; omega, by show p2 = p2 + ((0 : Nat) : Int); omega⟩ ?_ ?_
    · refine asm_val.2 ⟨⟨by simp [asmNew]; omega, fun x hx => ?_, fun d hd => by simp [asmNew] at hd, by simp [asmNew]⟩, by simp [asmNew]⟩
      simp only [asmNew, List.mem_replicate] at hx
      rw [hx.2]; rfl
    · have e1 : (asmNew n).next.length = n := by simp [asmNew]
      have e2 : (asmNew n).parts = [] := rfl
      simp only [e1, e2, List.length_nil, List.map_nil]
      (refine le_ev [(2, 6), (3, 4), (4, 5), (5, 7)] ?_; simp only [hm, go_sem, ↓reduceIte]; first | done | rfl | exact ⟨rfl, rfl⟩)
    rintro ⟨i, a, q⟩ ⟨hi, hB, hnl, hq, hq2⟩
    simp only at hi hB hnl hq hq2
    unfold pc68l0
    obtain ⟨a1, a2, a3, a4⟩ := asm_ok hB
    have hax : ∀ d ∈ a.parts, d.text.length ≤ 9223372036854775807 := fun d hd => by have := (data_ok (a4 d hd).1).2.2.2.2; omega
    rcases Nat.lt_or_ge i l.length with hil | hil
    · have hgd := getD_map (f := Data.row) hil
      have hdv := htv _ (k4 _ (List.getElem_mem hil))
      generalize l[i] = d at hgd hdv
      have hw : IntKind.i64.wrap ((i : Int) + 1) = (i : Int) + 1 := wrap64 (by omega) (by omega)
      have hdx := (data_ok hdv.1).2.2.2.2
      have h3 : (asmAdd a d).2.2 ≠ 3 := fun h3 => by
        cases add_case a d with
        | bad e hb => exact hb ⟨hB, hdv.1, by omega⟩
        | twice e => rw [e] at h3; cases h3
        | full e => rw [e] at h3; cases h3
        | done a' ms e => rw [e] at h3; cases h3
      obtain ⟨v1, v2⟩ := add_valid h3
      simp only [hm, go_sem, ↓reduceIte]
      refine fun _ => ⟨fun _ => ?_, fun h => (by exfalso; omega)⟩
      refine c_pick hP (by rfl) (by omega) hc fun u hu => ?_
      simp only [Int.toNat_natCast, hgd, Data.row, hm, go_sem, ↓reduceIte]
      refine ⟨fun _ => ⟨by omega, hil, ?_⟩, fun _ => ?_⟩
      · refine c_specAsmAdd hP (a := a) (d := d) (by omega) (by omega) hax (by omega) (.cons (vw_agg (.cons (Vw.full rfl (by simp)) (.cons (Vw.full rfl (by simp)) .nil))) (.cons (vw_self _ _ rfl) .nil)) (fun h => absurd h h3) (fun _ => ?_)
        simp only [hm, go_sem, ↓reduceIte]
        rw [hw]
        refine ⟨(i + 1, (asmAdd a d).1, q + 1), ⟨hil, v1, by rw [← hnl]; exact v2, by simp only; omega, by simp only; omega⟩, by simp only; omega, ?_⟩
        simp only
        (refine le_ev [(3, 6), (4, 7)] ?_; simp only [hm, go_sem, ↓reduceIte]; first | done | rfl | exact ⟨rfl, rfl⟩)
      · rw [hw]
        refine ⟨(i + 1, a, q + 1), ⟨hil, hB, hnl, by simp only; omega, by simp only; omega⟩, by simp only; omega, by (refine le_ev [] ?_; simp only [hm, go_sem, ↓reduceIte]; first | done | rfl | exact ⟨rfl, rfl⟩)⟩
    · have : i = l.length := by omega
      subst this
      simp only [hm, go_sem, ↓reduceIte]
      intro _
      exact ⟨_, ⟨a, q, rfl, hB, hq, by omega⟩, by (refine le_ev [] ?_; simp only [hm, go_sem, ↓reduceIte]; first | done | rfl | exact ⟨rfl, rfl⟩)⟩
  rintro t0 ⟨a, q, rfl, hB, hq, hq2⟩
  obtain ⟨a1, a2, a3, a4⟩ := asm_ok hB
  have hax : ∀ d ∈ a.parts, d.text.length ≤ 200 := fun d hd => by have := (data_ok (a4 d hd).1).2.2.2.2; omega
  simp only [hm, go_sem, ↓reduceIte]
  refine run_wpc _ _ _ _ _ ?_
  simp only [hm, go_sem, ↓reduceIte]
  refine c_pick hP (by rfl) (by omega) hc fun u hu => ?_
  simp only [hm, go_sem, ↓reduceIte]
  refine ⟨fun _ => ?_, fun _ => ⟨fun _ => ?_, fun _ => ⟨fun _ => ?_, fun _ => ?_⟩⟩⟩
  · refine c_drawD (hP ▸ s_l91Part code (q + 1) (by omega) hc) rfl fun d q2 g1 g2 g3 => ?_
    simp only [Data.av, hm, go_sem, ↓reduceIte]
    have hrow : List.take a.parts.length (a.parts.map Data.row) ++ [[.n .i64 d.tsn, .n .i64 d.stream, .n .i64 d.ssn, .b d.first, .b d.last, .b d.loose, .s d.text]] = (a.parts ++ [d]).map Data.row := by
      rw [List.take_of_length_le (by simp), List.map_append]; rfl
    refine ⟨by omega, ?_⟩
    rw [hrow]
    refine ⟨⟨a.next, a.parts ++ [d]⟩, q2, 3, 4, by decide, by simp, rfl, rfl, rfl, by omega, by omega, by simp only; omega, by simp; omega, fun x hx => ?_⟩
    rcases List.mem_append.1 hx with hx | hx
    · exact hax x hx
    · simp only [List.mem_singleton] at hx; subst hx; exact g3
  · refine c_draw (hP ▸ s_l91Word code (q + 1) (by omega) hc) rfl fun v q2 g1 g2 g3 g4 => ?_
    simp only [hm, go_sem, ↓reduceIte]
    have hrow : List.take a.next.length (a.next.map intRow) ++ [[.n .i64 v]] = (a.next ++ [v]).map intRow := by
      rw [List.take_of_length_le (by simp), List.map_append]; rfl
    refine ⟨by omega, ?_⟩
    rw [hrow]
    exact ⟨⟨a.next ++ [v], a.parts⟩, q2, 3, 4, by decide, by simp, rfl, rfl, rfl, by omega, by omega, by simp; omega, by simp only; omega, hax⟩
  · simp only [take_map_len, List.length_map, ← List.map_append]
    refine ⟨by omega, ⟨a.next, a.parts ++ a.parts⟩, q + 1, 3, 4, by decide, by simp, rfl, rfl, rfl, by omega, by omega, by simp only; omega, by simp; omega, fun x hx => ?_⟩
    rcases List.mem_append.1 hx with hx | hx
    · exact hax x hx
    · exact hax x hx
  · exact ⟨a, q + 1, 3, 4, by decide, rfl, rfl, rfl, rfl, by omega, by omega, by omega, by omega, hax⟩
end Go.Cap

/- Contracts: what the assembly laws draw. -/
namespace Go.Cap
open Go Go.Proofs
set_option maxRecDepth 100000
set_option linter.unusedSimpArgs false
set_option linter.unusedVariables false
attribute [local irreducible] Call Run Spec Le

theorem c_drawA {c : Cx} {f : Nat} {code : List UInt8} {p k : Int} {s : St} {K : AV → St → Prop} {b : Nat} (hs : Spec c.P f 1 [(0, rdB code p)] [.ptr 0 0 0] (DrawA code p k)) (hb : hget s.hp b = some (rdB code p))
    (h : ∀ (a : Asm) p', p ≤ p' → p' ≤ p + k → a.next.length ≤ 5 → a.parts.length ≤ 26 → (∀ d ∈ a.parts, d.text.length ≤ 200) → K (.agg [.sl s.nx 0 a.next.length, .sl (s.nx + 1) 0 a.parts.length]) ⟨s.sl, (b, rdB code p') :: (s.nx, .row 1 (a.next.map intRow)) :: (s.nx + 1, .row 7 (a.parts.map Data.row)) :: hdel s.hp b, s.nx + 2, s.gs⟩) : Call c f [.ptr b 0 0] s K :=
  call_named1G b hs hb rfl rfl fun r hp' nx' gs' ⟨a, p', h1, h2, h3, h4, h5, h6, h7, h8, h9⟩ => by
    subst h1; subst h2; subst h3; subst h4
    have := h a p' h5 h6 h7 h8 h9
    simpa [renA, renA.renL, renH, renB, idf, rdB] using this
/-- An assembly, as data. -/
def AsmIs (a : Asm) : Prop := a.next.length ≤ 5 ∧ a.parts.length ≤ 26 ∧ ∀ d ∈ a.parts, d.text.length ≤ 200
theorem s_DrawAsmAdd (code : List UInt8) : Spec Try.prog 13 0 [] [.r (.ro none (code.map byteRow))] (Plain fun r => ∃ (a : Asm) (d : Data), r = .tup [a.ro, d.av] ∧ AsmIs a ∧ d.text.length ≤ 200) := by
  refine Spec.le (Q := fun r hp _ _ => ∃ (a : Asm) (d : Data), ∃ b1 b2, b1 ≠ b2 ∧ r = .tup [.agg [.sl b1 0 a.next.length, .sl b2 0 a.parts.length], d.av] ∧ hget hp b1 = some (.row 1 (a.next.map intRow)) ∧ hget hp b2 = some (.row 7 (a.parts.map Data.row)) ∧ AsmIs a ∧ d.text.length ≤ 200) ?_ ?_
  · refine mr13 rfl fun c hP hm => ?_
    unfold pc13
    refine run_seq (run_wpc _ _ _ _ _ ?_)
    simp only [hm, go_sem, ↓reduceIte]
    refine run_seq (run_wpc _ _ _ _ _ ?_)
    simp only [hm, go_sem, ↓reduceIte]
    refine call_newV (hP ▸ s_l6Open code) rfl rfl ?_
    simp only [hm, go_sem, ↓reduceIte]
    have hc : (code.take 2000).length ≤ 2000 := by simp; omega
    generalize code.take 2000 = code at hc
    refine run_seq (run_wpc _ _ _ _ _ ?_)
    simp only [hm, go_sem, ↓reduceIte]
    refine c_drawA (hP ▸ s_l92Asm _ 0 (by omega) hc) rfl fun a p1 h1 h2 h3 h4 h5 => ?_
    simp only [hm, go_sem, ↓reduceIte]
    refine run_seq (run_wpc _ _ _ _ _ ?_)
    simp only [hm, go_sem, ↓reduceIte]
    intro _
    refine run_join (fun t => ∃ q : Int, 0 ≤ q ∧ q ≤ 1000 ∧ t = ⟨[(2, .ptr 0 0 0), (3, .ptr 1 0 0), (4, .ptr 2 0 0), (5, .ptr 3 0 0)], [(5, .row 7 (a.parts.map Data.row)), (4, .row 1 (a.next.map intRow)), (3, .var [.sl 4 0 a.next.length, .sl 5 0 a.parts.length]), (2, rdB code q), (1, .var [.i 0, .i 0, .i 0, .bo false, .bo false, .bo false, .st []]), (0, .var [.r .nil, .r .nil])], 6, []⟩) ?_ ?_
    · refine run_le (t := ⟨[(2, .ptr 0 0 0), (3, .ptr 1 0 0), (4, .ptr 2 0 0), (5, .ptr 3 0 0), (6, .i a.parts.length)], [(5, .row 7 (a.parts.map Data.row)), (4, .row 1 (a.next.map intRow)), (3, .var [.sl 4 0 a.next.length, .sl 5 0 a.parts.length]), (2, rdB code p1), (1, .var [.i 0, .i 0, .i 0, .bo false, .bo false, .bo false, .st []]), (0, .var [.r .nil, .r .nil])], 6, []⟩) (by (refine le_ev [(3, 5), (4, 3), (5, 4)] ?_; simp only [hm, go_sem, ↓reduceIte]; first | done | rfl | exact ⟨rfl, rfl⟩)) (run_wpc _ _ _ _ _ ?_)
      simp only [hm, go_sem, ↓reduceIte]
      refine ⟨fun hpos => ?_, fun _ => ⟨_, ⟨p1, by omega, by omega, rfl⟩, by (refine le_ev [] ?_; simp only [hm, go_sem, ↓reduceIte]; first | done | rfl | exact ⟨rfl, rfl⟩)⟩⟩
      have hn1 : IntKind.i64.wrap ((a.parts.length : Int) - 1) = (a.parts.length : Int) - 1 := wrap64 (by omega) (by omega)
      have hln : ((a.parts.length : Int) - 1).toNat = a.parts.length - 1 := by omega
      have hlt : a.parts.length - 1 < a.parts.length := by omega
      have hgl := getD_map (f := Data.row) hlt
      have hxl := h5 _ (List.getElem_mem hlt)
      generalize a.parts[a.parts.length - 1] = e at hgl hxl
      refine c_pick hP (by rfl) (by omega) hc fun v hv => ?_
      simp only [hn1, hln, hgl, Data.row, hm, go_sem, ↓reduceIte]
      refine ⟨fun hv0 => ⟨by omega, by omega, ?_⟩, fun _ => ⟨_, ⟨p1 + 1, by omega, by omega, rfl⟩, by (refine le_ev [] ?_; simp only [hm, go_sem, ↓reduceIte]; first | done | rfl | exact ⟨rfl, rfl⟩)⟩⟩
      refine call_pure (hP ▸ s_l12Data e (by omega)) rfl rfl ?_
      cases dataB e
      · simp only [hm, go_sem, ↓reduceIte]
        exact ⟨_, ⟨p1 + 1, by omega, by omega, rfl⟩, by (refine le_ev [] ?_; simp only [hm, go_sem, ↓reduceIte]; first | done | rfl | exact ⟨rfl, rfl⟩)⟩
      · simp only [hm, go_sem, ↓reduceIte]
        refine ⟨?_, ?_⟩
        all_goals
          refine c_pick hP (by rfl) (by omega) hc fun i hi => ?_
          have hi' : 0 ≤ i ∧ i < a.parts.length := by unfold Below at hi; omega
          have hin : i.toNat < a.parts.length := by omega
          have hgi := getD_map (f := Data.row) hin
          have hxi := h5 _ (List.getElem_mem hin)
          generalize a.parts[i.toNat] = d at hgi hxi
          simp only [hgi, Data.row, hm, go_sem, ↓reduceIte]
          repeat' first | refine And.intro ?_ ?_ | intro _ | (refine c_pick hP (by rfl) (by omega) hc fun v hv => ?_; simp only [hm, go_sem, ↓reduceIte]) | (refine call_pure (hP ▸ s_l3Add' _ _) rfl rfl ?_; simp only [hm, go_sem, ↓reduceIte])
          all_goals first
            | omega
            | rfl
            | exact ⟨a, ⟨_, _, _, _, _, _, _⟩, 4, 5, by decide, rfl, rfl, rfl, ⟨h3, h4, h5⟩, hxi⟩
    · rintro t ⟨q, hq1, hq2, rfl⟩
      refine run_wpc _ _ _ _ _ ?_
      simp only [hm, go_sem, ↓reduceIte]
      refine c_drawD (hP ▸ s_l91Part code q (by omega) hc) rfl fun d q2 g1 g2 g3 => ?_
      simp only [Data.av, hm, go_sem, ↓reduceIte]
      refine c_pick hP (by rfl) (by omega) hc fun u hu => ?_
      simp only [hm, go_sem, ↓reduceIte]
      refine ⟨fun _ => ?_, fun _ => ?_⟩
      · cases hnx : a.next with
        | nil =>
          simp only [hm, go_sem, ↓reduceIte]
          exact ⟨⟨[], a.parts⟩, ⟨d.tsn, 0, d.ssn, true, true, d.loose, d.text⟩, 4, 5, by decide, rfl, rfl, rfl, ⟨by simp, h4, h5⟩, g3⟩
        | cons x xs =>
          simp only [List.map_cons, List.getD_cons_zero, intRow, List.length_cons, hm, go_sem, ↓reduceIte]
          intro _
          rw [hnx, List.length_cons] at h3
          repeat' first | refine And.intro ?_ ?_ | intro _ | (refine c_l3Ok hP ?_; simp only [hm, go_sem, ↓reduceIte]) | (refine c_pick hP (by rfl) (by omega) hc fun v hv => ?_; simp only [hm, go_sem, ↓reduceIte]) | (refine call_pure (hP ▸ s_l3Add' _ _) rfl rfl ?_; simp only [hm, go_sem, ↓reduceIte])
          all_goals first
            | omega
            | rfl
            | exact ⟨⟨x :: xs, a.parts⟩, ⟨d.tsn, 0, _, true, true, d.loose, d.text⟩, 4, 5, by decide, rfl, rfl, rfl, ⟨by rw [List.length_cons]; exact h3, h4, h5⟩, g3⟩
      · exact ⟨a, ⟨_, _, _, _, _, _, _⟩, 4, 5, by decide, rfl, rfl, rfl, ⟨h3, h4, h5⟩, g3⟩
  · rintro r hp nx gs ⟨a, d, b1, b2, hne, rfl, h1, h2, hb, hd⟩
    refine ⟨.tup [a.ro, d.av], [], 0, [], ⟨⟨a, d, rfl, hb, hd⟩, rfl, rfl, rfl⟩, fun c hc => ?_⟩
    refine Le.trans (t := ⟨[(0, .tup [.agg [.sl 0 0 a.next.length, .sl 1 0 a.parts.length], d.av])], [(0, .row 1 (a.next.map intRow)), (1, .row 7 (a.parts.map Data.row))], 2, []⟩) (le_ev [(0, b1), (1, b2)] ?_) ?_
    · simp only [hc, go_sem, ↓reduceIte, h1, h2, Data.av, List.mem_cons, List.not_mem_nil, or_false, not_false_eq_true, and_self]
      exact fun e => hne e.symm
    · refine Le.trans (le_frz 0 rfl (by simp only [List.length_map, Data.av, go_sem, ↓reduceIte]) (by simp only [go_sem, ↓reduceIte])) ?_
      simp only [take_map_len, List.drop_zero, Data.av, go_sem, ↓reduceIte]
      refine Le.trans (le_frz 1 rfl (by simp only [List.length_map, Data.av, go_sem, ↓reduceIte]) (by simp only [go_sem, ↓reduceIte])) ?_
      simp only [take_map_len, List.drop_zero, Data.av, go_sem, ↓reduceIte]
      exact le_ev [] (by simp only [hc, Asm.ro, go_sem, ↓reduceIte])
end Go.Cap

/- Contracts: equality of assemblies, numbers among parts. -/
namespace Go.Cap
open Go Go.Proofs
set_option maxRecDepth 100000
set_option linter.unusedSimpArgs false
set_option linter.unusedVariables false
attribute [local irreducible] Call Run Spec Le

theorem s_sameInts (l : List Int) : Spec Try.prog 83 0 [] [.r (.ro none (l.map intRow)), .r (.ro none (l.map intRow))] (fun r _ _ _ => r = .bo true) := by
  refine mk83 rfl fun c hP hm => ?_
  unfold pc83
  simp only [hm, go_sem, ↓reduceIte]
  intro hlen _
  refine lp_wpc (α := Nat) (fun i => ⟨[(0, .r (.ro none (l.map intRow))), (1, .r (.ro none (l.map intRow))), (5, .i i)], [], 0, []⟩) (fun i => i ≤ l.length) (fun i => l.length - i) 0 (Nat.zero_le _) (by (refine le_ev [] ?_; simp only [hm, go_sem, ↓reduceIte]; first | done | rfl | exact ⟨rfl, rfl⟩)) ?_
  intro i hi
  unfold pc83l0
  rcases Nat.lt_or_ge i l.length with hil | hil
  · simp only [Int.toNat_natCast, getD_map hil, intRow, hm, go_sem, ↓reduceIte]
    have hw : IntKind.i64.wrap ((i : Int) + 1) = (i : Int) + 1 := wrap64 (by omega) (by omega)
    repeat' first | refine And.intro ?_ ?_ | intro _
    all_goals first
      | omega
      | (refine ⟨i + 1, hil, by omega, ?_⟩; rw [hw]; (refine le_ev [] ?_; simp only [hm, go_sem, ↓reduceIte]; first | done | rfl | exact ⟨rfl, rfl⟩))
  · have : i = l.length := by omega
    subst this
    simp only [hm, go_sem, ↓reduceIte]
    repeat' first | refine And.intro ?_ ?_ | intro _
    all_goals first
      | omega
      | (exfalso; omega)
theorem s_sameAsm (a : Asm) : Spec Try.prog 16 0 [] [a.ro, a.ro] (fun r _ _ _ => r = .bo true) := by
  refine mk16 rfl fun c hP hm => ?_
  unfold pc16 Asm.ro
  simp only [hm, go_sem, ↓reduceIte]
  refine call_pure (hP ▸ s_sameInts a.next) rfl rfl ?_
  simp only [hm, go_sem, ↓reduceIte]
  refine call_pure (hP ▸ s_sameParts a.parts) rfl rfl ?_
  simp only [hm, go_sem, ↓reduceIte]
end Go.Cap

/- Plain facts on settling: no byte is lost. -/
namespace Go.Cap
open Go Go.Proofs
set_option linter.unusedSimpArgs false
set_option linter.unusedVariables false

def sumN : List Nat → Nat
  | [] => 0
  | x :: l => x + sumN l
theorem sumN_app : ∀ (a b : List Nat), sumN (a ++ b) = sumN a + sumN b
  | [], b => by simp [sumN]
  | x :: a, b => by simp only [List.cons_append, sumN, sumN_app a b]; omega
theorem sumN_erase (f : Nat → Nat) : ∀ (p : List Nat) (k : Nat), k ∈ p → sumN (p.map f) = f k + sumN ((p.erase k).map f)
  | [], k, h => by cases h
  | x :: p, k, h => by
    by_cases e : x = k
    · subst e; simp [sumN]
    · have hk : k ∈ p := by rcases List.mem_cons.1 h with h | h; exact absurd h.symm e; exact h
      rw [List.erase_cons_tail (by simpa using e)]
      simp only [List.map_cons, sumN, sumN_erase f p k hk]; omega
def bytesD (l : List Data) : Nat := sumN (l.map fun d => d.text.length)
def bytesM (l : List Msg) : Nat := sumN (l.map fun m => m.text.length)
theorem restFrom_congr (p q : List Nat) : ∀ (l : List Data) (k : Nat), (∀ i, k ≤ i → (i ∈ p ↔ i ∈ q)) → restFrom p k l = restFrom q k l
  | [], k, _ => rfl
  | d :: l, k, h => by
    simp only [restFrom]
    rw [restFrom_congr p q l (k + 1) (fun i hi => h i (by omega))]
    by_cases hk : k ∈ p
    · rw [if_pos hk, if_pos ((h k (Nat.le_refl _)).1 hk)]
    · rw [if_neg hk, if_neg (fun h2 => hk ((h k (Nat.le_refl _)).2 h2))]
theorem restFrom_bytes : ∀ (l : List Data) (k : Nat) (p : List Nat), p.Nodup → (∀ i ∈ p, k ≤ i ∧ i < k + l.length) → bytesD (restFrom p k l) + sumN (p.map fun i => (dataAt l (i - k)).text.length) = bytesD l
  | [], k, p, hn, hp => by
    have : p = [] := by
      cases p with
      | nil => rfl
      | cons x p => have := hp x (by simp); simp at this; omega
    subst this
    simp [restFrom, bytesD, sumN]
  | d :: l, k, p, hn, hp => by
    simp only [restFrom]
    have hat : ∀ i, k + 1 ≤ i → dataAt (d :: l) (i - k) = dataAt l (i - (k + 1)) := fun i hi => by
      have : i - k = (i - (k + 1)) + 1 := by omega
      rw [this]; rfl
    by_cases hk : k ∈ p
    · rw [if_pos hk]
      have hn' : (p.erase k).Nodup := hn.erase k
      have hm : ∀ i, i ∈ p.erase k ↔ i ≠ k ∧ i ∈ p := fun i => hn.mem_erase_iff
      have hp' : ∀ i ∈ p.erase k, k + 1 ≤ i ∧ i < k + 1 + l.length := fun i hi => by
        obtain ⟨h1, h2⟩ := (hm i).1 hi
        have := hp i h2; simp only [List.length_cons] at this; omega
      have ih := restFrom_bytes l (k + 1) (p.erase k) hn' hp'
      rw [restFrom_congr p (p.erase k) l (k + 1) (fun i hi => ⟨fun h => (hm i).2 ⟨by omega, h⟩, fun h => ((hm i).1 h).2⟩)]
      rw [sumN_erase _ p k hk]
      have e1 : sumN ((p.erase k).map fun i => (dataAt (d :: l) (i - k)).text.length) = sumN ((p.erase k).map fun i => (dataAt l (i - (k + 1))).text.length) := by
        congr 1
        exact List.map_congr_left fun i hi => by rw [hat i (hp' i hi).1]
      rw [e1]
      have e2 : (dataAt (d :: l) (k - k)).text.length = d.text.length := by rw [Nat.sub_self]; rfl
      rw [e2]
      simp only [bytesD, List.map_cons, sumN] at ih ⊢
      omega
    · rw [if_neg hk]
      have hp' : ∀ i ∈ p, k + 1 ≤ i ∧ i < k + 1 + l.length := fun i hi => by
        have := hp i hi; simp only [List.length_cons] at this
        have : i ≠ k := fun e => hk (e ▸ hi)
        omega
      have ih := restFrom_bytes l (k + 1) p hn hp'
      have e1 : sumN (p.map fun i => (dataAt (d :: l) (i - k)).text.length) = sumN (p.map fun i => (dataAt l (i - (k + 1))).text.length) := by
        congr 1
        exact List.map_congr_left fun i hi => by rw [hat i (hp' i hi).1]
      rw [e1]
      simp only [bytesD, List.map_cons, sumN] at ih ⊢
      omega
theorem textIx_sum (l : List Data) : ∀ (p : List Nat), (textOfIx l p).length = sumN (p.map fun i => (dataAt l i).text.length)
  | [] => rfl
  | x :: p => by
    have := textIx_sum l p
    unfold textOfIx at this ⊢
    rw [List.flatMap_cons, List.length_append, this]; rfl
theorem takeOut_bytes {a : Asm} {p : List Nat} (h : DueOk a p) : bytesD (takeOut a p).parts + (msgOf a p).text.length = bytesD a.parts := by
  have := restFrom_bytes a.parts 0 p h.nodup (fun i hi => ⟨Nat.zero_le _, by rw [Nat.zero_add]; exact h.lt i hi⟩)
  simp only [Nat.sub_zero] at this
  unfold takeOut msgOf
  simp only [textIx_sum]
  exact this
theorem Stl.bytes {a a' : Asm} {ms ms' : List Msg} (h : Stl a ms a' ms') : bytesD a'.parts + bytesM ms' = bytesD a.parts + bytesM ms := by
  induction h with
  | stop a ms _ => rfl
  | step a ms p a' ms' ok hd _ ih =>
    have := takeOut_bytes (due_ok ok hd)
    rw [ih]
    simp only [bytesM, List.map_append, sumN_app, List.map_cons, List.map_nil, sumN]
    omega
theorem bytesD_le : ∀ {l : List Data} {n : Nat}, (∀ d ∈ l, d.text.length ≤ n) → bytesD l ≤ n * l.length
  | [], n, _ => by simp [bytesD, sumN]
  | d :: l, n, h => by
    have h1 := h d (by simp)
    have h2 := bytesD_le (l := l) (n := n) (fun x hx => h x (by simp [hx]))
    simp only [bytesD, List.map_cons, sumN, List.length_cons, Nat.mul_add, Nat.mul_one] at h2 ⊢
    omega
theorem bytesD_take {l : List Data} {i : Nat} (h : i < l.length) : bytesD (l.take (i + 1)) = bytesD (l.take i) + l[i].text.length := by
  rw [take_get h]; simp only [bytesD, List.map_append, sumN_app, List.map_cons, List.map_nil, sumN]; omega
theorem bytesM_take {l : List Msg} {i : Nat} (h : i < l.length) : bytesM (l.take (i + 1)) = bytesM (l.take i) + l[i].text.length := by
  rw [take_get h]; simp only [bytesM, List.map_append, sumN_app, List.map_cons, List.map_nil, sumN]; omega
theorem bytesD_app (a b : List Data) : bytesD (a ++ b) = bytesD a + bytesD b := by simp only [bytesD, List.map_append, sumN_app]
theorem bytesD_mono {l : List Data} (i : Nat) : bytesD (l.take i) ≤ bytesD l := by
  have := bytesD_app (l.take i) (l.drop i)
  rw [List.take_append_drop] at this; omega
theorem bytesM_mono {l : List Msg} (i : Nat) : bytesM (l.take i) ≤ bytesM l := by
  have : bytesM (l.take i ++ l.drop i) = bytesM (l.take i) + bytesM (l.drop i) := by simp only [bytesM, List.map_append, sumN_app]
  rw [List.take_append_drop] at this; omega
end Go.Cap
