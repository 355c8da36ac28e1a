/- Contracts of functions, text C. -/
import Derived.Test.YtggbmeiomhbmpaaGreatEngC
import Derived.Test.YtggbmeiomhbmpaaGreatLawB
import Derived.Test.YtggbmeiomhbmpaaGreatPc
open Go Go.Proofs
set_option maxRecDepth 100000
set_option linter.unusedSimpArgs false
set_option linter.unusedVariables false
namespace Go.Cap
attribute [local irreducible] Call Run Spec Le
def OkG (X : List AG) (gs : List Nat) : Prop := (∀ g ∈ X.flatMap AG.gs, g ∈ gs) ∧ (gs.Nodup → (X.flatMap AG.gs).Nodup)
theorem OkG.nil (gs : List Nat) : OkG [] gs := ⟨fun g h => by simp at h, fun _ => List.nodup_nil⟩
theorem OkG.snoc {X : List AG} {gs : List Nat} (h : OkG X gs) (x : AG) : OkG (X ++ [x]) (x.gs ++ gs) := by
  unfold OkG
  rw [List.flatMap_append, List.flatMap_cons, List.flatMap_nil, List.append_nil]
  refine ⟨fun g hg => ?_, fun hn => ?_⟩
  · rcases List.mem_append.1 hg with hg | hg
    · exact List.mem_append_right _ (h.1 g hg)
    · exact List.mem_append_left _ hg
  · obtain ⟨n1, n2, n3⟩ := List.nodup_append.1 hn
    exact List.nodup_append.2 ⟨h.2 n2, n1, fun g hg g' hg' e => n3 g' hg' g (h.1 g hg) e.symm⟩
theorem sub_flat {f : AG → List Nat} {Y X : List AG} (h : List.Sublist Y X) : (Y.flatMap f).Sublist (X.flatMap f) := by
  induction h with
  | slnil => exact .slnil
  | cons a _ ih => rw [List.flatMap_cons]; exact ih.trans (List.sublist_append_right _ _)
  | cons_cons a _ ih => rw [List.flatMap_cons, List.flatMap_cons]; exact (List.Sublist.refl _).append ih
theorem OkG.sub {X Y : List AG} {gs : List Nat} (h : OkG X gs) (hs : List.Sublist Y X) : OkG Y gs :=
  ⟨fun g hg => h.1 g ((sub_flat hs).subset hg), fun hn => (h.2 hn).sublist (sub_flat hs)⟩
def dropG (X : List AG) (k : Nat) : List AG := X.take k ++ X.drop (k + 1)
theorem dropG_sub (X : List AG) (k : Nat) : List.Sublist (dropG X k) X := by
  have h : List.Sublist (X.drop (k + 1)) (X.drop k) := by
    have := List.drop_sublist 1 (X.drop k)
    rwa [List.drop_drop] at this
  have h2 : X = X.take k ++ X.drop k := (List.take_append_drop k X).symm
  unfold dropG
  conv => rhs; rw [h2]
  exact (List.Sublist.refl _).append h
theorem OkG.more {X : List AG} {gs : List Nat} (h : OkG X gs) (l : List Nat) : OkG X (l ++ gs) := ⟨fun g hg => List.mem_append_right _ (h.1 g hg), fun hn => h.2 (List.nodup_append.1 hn).2.1⟩
theorem OkG.set {X : List AG} {gs : List Nat} (h : OkG X gs) (k : Nat) (x : AG) : OkG (X.set k x) (x.gs ++ gs) := by
  rcases Nat.lt_or_ge k X.length with hk | hk
  · have e : X.set k x = X.take k ++ x :: X.drop (k + 1) := by rw [List.set_eq_take_append_cons_drop, if_pos hk]
    have hd := h.sub (dropG_sub X k)
    unfold dropG at hd
    unfold OkG at hd ⊢
    rw [e, List.flatMap_append, List.flatMap_cons]
    rw [List.flatMap_append] at hd
    obtain ⟨d1, d2⟩ := hd
    refine ⟨fun g hg => ?_, fun hn => ?_⟩
    · rcases List.mem_append.1 hg with hg | hg
      · exact List.mem_append_right _ (d1 g (List.mem_append_left _ hg))
      · rcases List.mem_append.1 hg with hg | hg
        · exact List.mem_append_left _ hg
        · exact List.mem_append_right _ (d1 g (List.mem_append_right _ hg))
    · obtain ⟨n1, n2, n3⟩ := List.nodup_append.1 hn
      obtain ⟨q1, q2, q3⟩ := List.nodup_append.1 (d2 n2)
      refine List.nodup_append.2 ⟨q1, List.nodup_append.2 ⟨n1, q2, fun g hg g' hg' => n3 g hg g' (d1 g' (List.mem_append_right _ hg'))⟩, fun g hg g' hg' e => ?_⟩
      rcases List.mem_append.1 hg' with hg' | hg'
      · exact n3 g' hg' g (d1 g (List.mem_append_left _ hg)) e.symm
      · exact q3 g hg g' hg' e
  · rw [List.set_eq_of_length_le hk]; exact h.more _
theorem gc_weak {M : Mem} {g : Nat} {L : List (List RV)} {v : Value} (h : Rr M (gc g L) v) : Rr M (.ro none L) v := by
  unfold gc at h
  split at h
  · rename_i e
    cases L with
    | nil => exact h
    | cons => cases e
  · exact h.weak
theorem AG.weak {M : Mem} {ι : Nat → Option BI} {x : AG} {v : Value} (h : Ar M ι (.agg (x.row.map .r)) v) : Ar M ι x.a.ro v := by
  show Ar M ι (.agg [.i x.a.fr, .i x.a.to, .i x.a.state, .bo x.a.byB, .i x.a.a.tag, .i x.a.a.streams, .i x.a.a.first, .r (.ro none (x.a.a.sent.map Data.row)), .i x.a.a.acked, .i x.a.b.tag, .i x.a.b.streams, .i x.a.b.first, .r (.ro none (x.a.b.sent.map Data.row)), .i x.a.b.acked]) v
  cases h with
  | agg _ vs hl h1 h =>
    refine .agg _ vs hl h1 fun j c u hc hu => ?_
    match j, hc with
    | 0, hc => cases hc; exact h 0 _ u rfl hu
    | 1, hc => cases hc; exact h 1 _ u rfl hu
    | 2, hc => cases hc; exact h 2 _ u rfl hu
    | 3, hc => cases hc; exact h 3 _ u rfl hu
    | 4, hc => cases hc; exact h 4 _ u rfl hu
    | 5, hc => cases hc; exact h 5 _ u rfl hu
    | 6, hc => cases hc; exact h 6 _ u rfl hu
    | 7, hc =>
      cases hc
      have := h 7 (.r x.ca) u rfl hu
      cases this with | r _ _ q => exact .r _ _ (gc_weak q)
    | 8, hc => cases hc; exact h 8 _ u rfl hu
    | 9, hc => cases hc; exact h 9 _ u rfl hu
    | 10, hc => cases hc; exact h 10 _ u rfl hu
    | 11, hc => cases hc; exact h 11 _ u rfl hu
    | 12, hc =>
      cases hc
      have := h 12 (.r x.cb) u rfl hu
      cases this with | r _ _ q => exact .r _ _ (gc_weak q)
    | 13, hc => cases hc; exact h 13 _ u rfl hu
    | j + 14, hc => cases hc
def ListG (ls : AV) (lh : List (Nat × Blk)) (X : List AG) : Prop := (ls = .r .nil ∧ lh = [] ∧ X = []) ∨ (ls = .sl 4 0 X.length ∧ lh = [(4, .row 14 (X.map AG.row))])
structure MQG (m' : Mon) (r : AV) (hp : List (Nat × Blk)) (nx : Nat) (gs : List Nat) : Prop where
  h : (m' = noMon ∧ r = .agg [.i 0, .r .nil, .r .nil]) ∨
    (m'.list = [] ∧ ∃ b, r = .agg [.i m'.records, .r .nil, .sl b 0 m'.found.length] ∧ hget hp b = some (.row 2 (m'.found.map Fnd.row))) ∨
    (∃ b b1 X, b ≠ b1 ∧ (X.map AG.a = m'.list ∧ OkG X gs) ∧ r = .agg [.i m'.records, .sl b1 0 X.length, .sl b 0 m'.found.length] ∧ hget hp b = some (.row 2 (m'.found.map Fnd.row)) ∧ hget hp b1 = some (.row 14 (X.map AG.row)))
def msG (m : Mon) (text : List UInt8) (gs : List Nat) : List AG → St
  | [] => ⟨[(1, .st text), (2, .ptr 0 0 0), (4, .ptr 1 0 0), (5, .ptr 2 0 0), (37, .r (.ro none (m.list.map Assoc.row))), (38, .i m.list.length), (39, .i 0)], [(0, .var [.i m.records, .r (.ro none (m.list.map Assoc.row)), .r (.ro none (m.found.map Fnd.row))]), (1, .var [.i 0, .r .nil, .r .nil]), (2, .var [.i (m.records + 1), .r .nil, .sl 3 0 m.found.length]), (3, .row 2 (m.found.map Fnd.row))], 4, gs⟩
  | x :: X => ⟨[(1, .st text), (2, .ptr 0 0 0), (4, .ptr 1 0 0), (5, .ptr 2 0 0), (37, .r (.ro none (m.list.map Assoc.row))), (38, .i m.list.length), (39, .i ((X.length + 1 : Nat) : Int))], [(0, .var [.i m.records, .r (.ro none (m.list.map Assoc.row)), .r (.ro none (m.found.map Fnd.row))]), (1, .var [.i 0, .r .nil, .r .nil]), (2, .var [.i (m.records + 1), .sl 4 0 (X.length + 1), .sl 3 0 m.found.length]), (3, .row 2 (m.found.map Fnd.row)), (4, .row 14 ((x :: X).map AG.row))], 5, gs⟩
theorem msG_nil (m : Mon) (text : List UInt8) (gs : List Nat) : msG m text gs [] = ⟨[(1, .st text), (2, .ptr 0 0 0), (4, .ptr 1 0 0), (5, .ptr 2 0 0), (37, .r (.ro none (m.list.map Assoc.row))), (38, .i m.list.length), (39, .i 0)], [(0, .var [.i m.records, .r (.ro none (m.list.map Assoc.row)), .r (.ro none (m.found.map Fnd.row))]), (1, .var [.i 0, .r .nil, .r .nil]), (2, .var [.i (m.records + 1), .r .nil, .sl 3 0 m.found.length]), (3, .row 2 (m.found.map Fnd.row))], 4, gs⟩ := rfl
theorem msG_cons (m : Mon) (text : List UInt8) (gs : List Nat) (x : AG) (X : List AG) : msG m text gs (x :: X) = ⟨[(1, .st text), (2, .ptr 0 0 0), (4, .ptr 1 0 0), (5, .ptr 2 0 0), (37, .r (.ro none (m.list.map Assoc.row))), (38, .i m.list.length), (39, .i ((X.length + 1 : Nat) : Int))], [(0, .var [.i m.records, .r (.ro none (m.list.map Assoc.row)), .r (.ro none (m.found.map Fnd.row))]), (1, .var [.i 0, .r .nil, .r .nil]), (2, .var [.i (m.records + 1), .sl 4 0 (X.length + 1), .sl 3 0 m.found.length]), (3, .row 2 (m.found.map Fnd.row)), (4, .row 14 ((x :: X).map AG.row))], 5, gs⟩ := rfl
theorem note_loopG {c : Cx} (hP : c.P = Tryz.prog) (hm : c.m = 0) (n0 : Int) (rules : List Int) (hr : rules.length ≤ 1000) (ra rb : RV) (F : List Fnd) (hf : F.length ≤ 3000000) {ls : AV} {lh : List (Nat × Blk)} {L : List AG} {gs : List Nat} (hls : ListG ls lh L) {s0 : St} {n r : St → Prop} {x : Nat → St → Prop}
    (hs : Le c s0 ⟨[(2, .ptr 0 0 0), (4, .ptr 1 0 0), (5, .ptr 2 0 0), (190, .r (.ro none (rules.map intRow))), (191, .i rules.length), (192, .i 0)], [(0, .var [.i n0, .r ra, .r rb]), (1, .var [.i 0, .r .nil, .r .nil]), (2, .var [.i (n0 + 1), ls, .sl 3 0 F.length]), (3, .row 2 (F.map Fnd.row))] ++ lh, 5, gs⟩)
    (hx : x 5 ⟨[(4, .ptr 1 0 0), (5, .ptr 2 0 0)], [(1, .var [.i 0, .r .nil, .r .nil]), (2, .var [.i (n0 + 1), ls, .sl 3 0 (F ++ notesOf n0 rules).length]), (3, .row 2 ((F ++ notesOf n0 rules).map Fnd.row))] ++ lh, 5, gs⟩) : Run c (.lp pc17l2) s0 n x r := by
  obtain ⟨g, hgd⟩ : ∃ g : Nat → List Fnd, ∀ j, g j = F ++ notesOf n0 (rules.take j) := ⟨_, fun _ => rfl⟩
  have g0 : g 0 = F := by rw [hgd, List.take_zero]; exact List.append_nil _
  have gN : g rules.length = F ++ notesOf n0 rules := by rw [hgd, List.take_length]
  have key : ∀ j (hj : j < rules.length), g (j + 1) = g j ++ [⟨n0, rules[j]⟩] := fun j hj => by
    rw [hgd, hgd]
    unfold notesOf
    rw [take_get hj, List.map_append, ← List.append_assoc]
    rfl
  have gl : ∀ j, (g j).length ≤ 3001000 := fun j => by
    rw [hgd, List.length_append]; unfold notesOf; rw [List.length_map, List.length_take]; omega
  rw [← gN] at hx
  clear gN hgd
  rcases hls with ⟨rfl, rfl, rfl⟩ | ⟨rfl, rfl⟩
  all_goals
    simp only [List.append_nil, List.cons_append, List.nil_append] at hs hx
  · refine run_exit 5 (fun t0 => t0 = ⟨[(4, .ptr 1 0 0), (5, .ptr 2 0 0)], [(1, .var [.i 0, .r .nil, .r .nil]), (2, .var [.i (n0 + 1), .r .nil, .sl 3 0 (g rules.length).length]), (3, .row 2 ((g rules.length).map Fnd.row))], 5, gs⟩) ?_ (fun t0 h => by rw [h]; exact hx)
    refine lp_wpc (α := Nat) (fun j => ⟨[(2, .ptr 0 0 0), (4, .ptr 1 0 0), (5, .ptr 2 0 0), (190, .r (.ro none (rules.map intRow))), (191, .i rules.length), (192, .i j)], [(0, .var [.i n0, .r ra, .r rb]), (1, .var [.i 0, .r .nil, .r .nil]), (2, .var [.i (n0 + 1), .r .nil, .sl 3 0 (g j).length]), (3, .row 2 ((g j).map Fnd.row))], 5, gs⟩)
      (fun j => j ≤ rules.length) (fun j => rules.length - j) 0 (Nat.zero_le _) (by rw [g0]; exact hs) ?_
    intro j hj
    unfold pc17l2
    rcases Nat.lt_or_ge j rules.length with hil | hil
    · have hw : IntKind.i64.wrap ((j : Int) + 1) = ((j + 1 : Nat) : Int) := by rw [wrap64 (by omega) (by omega)]; omega
      have hg := getD_map (f := intRow) hil
      have hk := key j hil
      generalize rules[j] = q at hg hk
      have hbd := gl j
      generalize g j = G at hk hbd ⊢
      simp only [hw, Int.toNat_natCast, hg, intRow, take_map_len, List.length_map, hm,go_sem,↓reduceIte]
      repeat' first | refine And.intro ?_ ?_ | intro _
      all_goals first
        | omega
        | (refine ⟨j + 1, hil, by omega, ?_⟩
           rw [hk, List.length_append, List.map_append]
           simp only [List.map_cons, List.map_nil, List.length_cons, List.length_nil, Fnd.row]
           (refine le_evg [] (by first | rfl | simp) ?_; simp only [hm,go_sem,↓reduceIte]; first | done | rfl | exact ⟨rfl, rfl⟩))
    · have : j = rules.length := by omega
      subst this
      simp only [hm,go_sem,↓reduceIte]
      repeat' first | refine And.intro ?_ ?_ | intro _
      all_goals first
        | omega
        | (refine ⟨_, rfl, ?_⟩; (refine le_evg [] (by first | rfl | simp) ?_; simp only [hm,go_sem,↓reduceIte]; first | done | rfl | exact ⟨rfl, rfl⟩))
  · refine run_exit 5 (fun t0 => t0 = ⟨[(4, .ptr 1 0 0), (5, .ptr 2 0 0)], [(1, .var [.i 0, .r .nil, .r .nil]), (2, .var [.i (n0 + 1), .sl 4 0 L.length, .sl 3 0 (g rules.length).length]), (3, .row 2 ((g rules.length).map Fnd.row)), (4, .row 14 (L.map AG.row))], 5, gs⟩) ?_ (fun t0 h => by rw [h]; exact hx)
    refine lp_wpc (α := Nat) (fun j => ⟨[(2, .ptr 0 0 0), (4, .ptr 1 0 0), (5, .ptr 2 0 0), (190, .r (.ro none (rules.map intRow))), (191, .i rules.length), (192, .i j)], [(0, .var [.i n0, .r ra, .r rb]), (1, .var [.i 0, .r .nil, .r .nil]), (2, .var [.i (n0 + 1), .sl 4 0 L.length, .sl 3 0 (g j).length]), (3, .row 2 ((g j).map Fnd.row)), (4, .row 14 (L.map AG.row))], 5, gs⟩)
      (fun j => j ≤ rules.length) (fun j => rules.length - j) 0 (Nat.zero_le _) (by rw [g0]; exact hs) ?_
    intro j hj
    unfold pc17l2
    rcases Nat.lt_or_ge j rules.length with hil | hil
    · have hw : IntKind.i64.wrap ((j : Int) + 1) = ((j + 1 : Nat) : Int) := by rw [wrap64 (by omega) (by omega)]; omega
      have hg := getD_map (f := intRow) hil
      have hk := key j hil
      generalize rules[j] = q at hg hk
      have hbd := gl j
      generalize g j = G at hk hbd ⊢
      simp only [hw, Int.toNat_natCast, hg, intRow, take_map_len, List.length_map, hm,go_sem,↓reduceIte]
      repeat' first | refine And.intro ?_ ?_ | intro _
      all_goals first
        | omega
        | (refine ⟨j + 1, hil, by omega, ?_⟩
           rw [hk, List.length_append, List.map_append]
           simp only [List.map_cons, List.map_nil, List.length_cons, List.length_nil, Fnd.row]
           (refine le_evg [] (by first | rfl | simp) ?_; simp only [hm,go_sem,↓reduceIte]; first | done | rfl | exact ⟨rfl, rfl⟩))
    · have : j = rules.length := by omega
      subst this
      simp only [hm,go_sem,↓reduceIte]
      repeat' first | refine And.intro ?_ ?_ | intro _
      all_goals first
        | omega
        | (refine ⟨_, rfl, ?_⟩; (refine le_evg [] (by first | rfl | simp) ?_; simp only [hm,go_sem,↓reduceIte]; first | done | rfl | exact ⟨rfl, rfl⟩))
set_option maxHeartbeats 4000000 in
theorem s_implMonitorStepG (m : Mon) (text : List UInt8) (hf : MFit m) (ht : text.length ≤ 2000000) : Spec Tryz.prog 17 0 [] [m.ro, .st text] (MQG (monStep m text)) := by
  have hmv := s_implMonitorValid m hf
  have hpg := s_implPacketGet text ht
  refine mr17 rfl fun c hP hm => ?_
  unfold pc17
  unfold Mon.ro at hmv ⊢
  refine run_seq (run_wpc _ _ _ _ _ ?_)
  simp only [hm,go_sem,↓reduceIte]
  refine run_seq (run_wpc _ _ _ _ _ ?_)
  simp only [hm,go_sem,↓reduceIte]
  refine call_pure (hP ▸ hmv) rfl rfl ?_
  cases hv : monB m
  · simp only [hm,go_sem,↓reduceIte]
    have : monStep m text = noMon := by unfold monStep; rw [hv]; rfl
    rw [this]
    exact ⟨.inl ⟨rfl, rfl⟩⟩
  simp only [hm,go_sem,↓reduceIte]
  refine ⟨fun h => ?_, fun h => ?_⟩
  · have : monStep m text = noMon := by unfold monStep; rw [hv, decide_eq_false (by omega)]; rfl
    rw [this]
    exact ⟨.inl ⟨rfl, rfl⟩⟩
  have hms : monStep m text = stepMon m text := by unfold monStep; rw [hv, decide_eq_true (by omega)]; rfl
  rw [hms]
  clear hms
  obtain ⟨v1, v2, v3, v4⟩ := monB_iff.1 hv
  have hw1 : IntKind.i64.wrap (m.records + 1) = m.records + 1 := wrap64 (by omega) (by omega)
  have hrf : ∀ r ∈ m.found.map Fnd.row, r.length = 2 := fun r hr => by obtain ⟨d, _, rfl⟩ := List.mem_map.1 hr; rfl
  have hnf := hf.nf
  refine run_join (fun t => t = ⟨[(1, .st text), (2, .ptr 0 0 0), (4, .ptr 1 0 0), (5, .ptr 2 0 0)], [(0, .var [.i m.records, .r (.ro none (m.list.map Assoc.row)), .r (.ro none (m.found.map Fnd.row))]), (1, .var [.i 0, .r .nil, .r .nil]), (2, .var [.i (m.records + 1), .r .nil, .sl 3 0 m.found.length]), (3, .row 2 (m.found.map Fnd.row))], 4, []⟩) (run_wpc _ _ _ _ _ ?_) ?_
  · simp only [hw1, hm,go_sem,↓reduceIte]
    repeat' first | refine And.intro ?_ ?_ | intro _
    all_goals first
      | omega
      | exact hrf _ (by assumption)
      | (simp only [List.length_map, List.length_nil, List.length_append]; omega)
      | (refine ⟨_, rfl, ?_⟩; (refine le_ev [] ?_; simp only [hm,go_sem,↓reduceIte]; first | done | rfl | exact ⟨rfl, rfl⟩))
      | (refine ⟨_, rfl, ?_⟩; (refine le_ev [(2, 3), (3, 2)] ?_; simp only [hm,go_sem,↓reduceIte]; first | done | rfl | exact ⟨rfl, rfl⟩))
      | (refine ⟨_, rfl, ?_⟩; (refine le_ev [(2, 4), (3, 3)] ?_; simp only [hm,go_sem,↓reduceIte]; first | done | rfl | exact ⟨rfl, rfl⟩))
      | (refine ⟨_, rfl, ?_⟩; (refine le_ev [(2, 2), (3, 4)] ?_; simp only [hm,go_sem,↓reduceIte]; first | done | rfl | exact ⟨rfl, rfl⟩))
      | (refine ⟨_, rfl, ?_⟩; (refine le_ev [(2, 4), (3, 2)] ?_; simp only [hm,go_sem,↓reduceIte]; first | done | rfl | exact ⟨rfl, rfl⟩))
  rintro t rfl
  refine run_seq (run_wpc _ _ _ _ _ ?_)
  simp only [hm,go_sem,↓reduceIte]
  intro _
  have hsv : ∀ a ∈ m.list, assocB a = true := fun a ha => ((listB_iff.1 v3).1 a ha).1
  refine run_exit 0 (fun t0 => ∃ ls lh X gs, ListG ls lh X ∧ (X.map AG.a = m.list ∧ OkG X gs) ∧ t0 = ⟨[(1, .st text), (2, .ptr 0 0 0), (4, .ptr 1 0 0), (5, .ptr 2 0 0)], [(0, .var [.i m.records, .r (.ro none (m.list.map Assoc.row)), .r (.ro none (m.found.map Fnd.row))]), (1, .var [.i 0, .r .nil, .r .nil]), (2, .var [.i (m.records + 1), ls, .sl 3 0 m.found.length]), (3, .row 2 (m.found.map Fnd.row))] ++ lh, 5, gs⟩) ?_ ?_
  · refine lp_wpc (α := List AG × List Nat) (fun y => msG m text y.2 y.1) (fun y => y.1.length ≤ m.list.length ∧ y.1.map AG.a = m.list.take y.1.length ∧ OkG y.1 y.2) (fun y => m.list.length - y.1.length) ([], []) ⟨Nat.zero_le _, rfl, OkG.nil _⟩ (by rw [msG_nil]; (refine le_evg [] (by first | rfl | simp) ?_; simp only [hm,go_sem,↓reduceIte]; first | done | rfl | exact ⟨rfl, rfl⟩)) ?_
    rintro ⟨X, gs⟩ ⟨hi, hX, hO⟩
    simp only at hi hX hO
    unfold pc17l0
    rcases Nat.lt_or_ge X.length m.list.length with hil | hil
    · have hw : IntKind.i64.wrap ((X.length : Int) + 1) = ((X.length + 1 : Nat) : Int) := by rw [wrap64 (by omega) (by omega)]; omega
      have hg := getD_map (f := Assoc.row) hil
      have htk := take_get hil
      have hav := assocB_AW (hsv _ (List.getElem_mem hil))
      generalize m.list[X.length] = a at hg htk hav
      have hcp := s_copyAssocG a (by have := hav.1.2.1; omega) (by have := hav.2.2.1; omega)
      have hu : a.ro = .agg a.cellsA := rfl
      rw [hu] at hcp
      unfold Assoc.cellsA at hcp
      have hrow : a.row = [.n .i64 a.fr, .n .i64 a.to, .n .i64 a.state, .b a.byB, .n .i64 a.a.tag, .n .i64 a.a.streams, .n .i64 a.a.first, .ro none (a.a.sent.map Data.row), .n .i64 a.a.acked, .n .i64 a.b.tag, .n .i64 a.b.streams, .n .i64 a.b.first, .ro none (a.b.sent.map Data.row), .n .i64 a.b.acked] := rfl
      rw [hrow] at hg
      have hnext : ∀ x : AG, x.a = a → (X ++ [x]).length ≤ m.list.length ∧ (X ++ [x]).map AG.a = m.list.take (X ++ [x]).length ∧ OkG (X ++ [x]) (x.gs ++ gs) := fun x hx => by
        refine ⟨by rw [List.length_append]; exact hil, ?_, hO.snoc x⟩
        rw [List.map_append, hX, List.length_append]
        show _ ++ [x.a] = m.list.take (X.length + 1)
        rw [hx, htk]
      cases X with
      | nil =>
        rw [msG_nil]
        have hw0 : IntKind.i64.wrap (0 + 1) = ((0 + 1 : Nat) : Int) := rfl
        have h00 : (0 : Int).toNat = 0 := rfl
        simp only [List.length_nil] at hg hw
        simp only [hw0, h00, hg, hm,go_sem,↓reduceIte]
        repeat' first
          | refine And.intro ?_ ?_
          | intro _
          | (refine call_gh (hP ▸ hcp) rfl ?_
             rintro r g0 ⟨x, hx, rfl, rfl⟩
             refine ⟨rfl, ?_⟩
             unfold AG.av Assoc.av
             simp only [hw0, h00, hg, hm,go_sem,↓reduceIte])
        all_goals first
          | omega
          | (refine ⟨([] ++ [x], x.gs ++ gs), hnext x hx, by simp only [List.length_append, List.length_cons, List.length_nil]; simp only [List.length_nil] at hil; omega, ?_⟩
             rw [List.nil_append, msG_cons]
             simp only [List.map_cons, List.map_nil, List.length_nil, AG.row, Assoc.cellsX]
             first
             | (refine le_evg [(4, 6)] (by first | rfl | simp) ?_; simp only [hm,go_sem,↓reduceIte]; first | done | rfl | exact ⟨rfl, rfl⟩)
             | (refine le_evg [(4, 5)] (by first | rfl | simp) ?_; simp only [hm,go_sem,↓reduceIte]; first | done | rfl | exact ⟨rfl, rfl⟩)
             | (refine le_evg [(4, 7)] (by first | rfl | simp) ?_; simp only [hm,go_sem,↓reduceIte]; first | done | rfl | exact ⟨rfl, rfl⟩))
      | cons x0 X =>
        rw [msG_cons]
        have hl : (((x0 :: X)).map AG.row).length = X.length + 1 := by rw [List.length_map]; rfl
        have hrt : List.take (X.length + 1) ((x0 :: X).map AG.row) = (x0 :: X).map AG.row := List.take_of_length_le (Nat.le_of_eq hl)
        rw [show (x0 :: X).length = X.length + 1 from rfl] at hg hw hil
        obtain ⟨Y, hY⟩ : ∃ Y, x0 :: X = Y := ⟨_, rfl⟩
        rw [hY] at hl hrt hnext
        rw [hY]
        simp only [hw, hrt, hl, Int.toNat_natCast, hg, hm,go_sem,↓reduceIte]
        repeat' first
          | refine And.intro ?_ ?_
          | intro _
          | (refine call_gh (hP ▸ hcp) rfl ?_
             rintro r g0 ⟨x, hx, rfl, rfl⟩
             refine ⟨rfl, ?_⟩
             unfold AG.av Assoc.av
             simp only [hw, hrt, hl, Int.toNat_natCast, hg, hm,go_sem,↓reduceIte])
        all_goals first
          | omega
          | (refine ⟨(Y ++ [x], x.gs ++ gs), hnext x hx, by simp only [List.length_append, List.length_cons, List.length_nil, ← hY]; omega, ?_⟩
             rw [← hY, List.cons_append, msG_cons]
             simp only [← List.cons_append, List.map_append, List.length_append, List.map_cons, List.map_nil, List.length_cons, List.length_nil, AG.row, Assoc.cellsX]
             (refine le_evg [] (by first | rfl | simp) ?_; simp only [hm,go_sem,↓reduceIte]; first | done | rfl | exact ⟨rfl, rfl⟩))
    · have hie : X.length = m.list.length := by omega
      rw [hie, List.take_length] at hX
      cases X with
      | nil =>
        rw [msG_nil]
        have hl1 : (m.list.length : Int) = 0 := by rw [← hie]; rfl
        simp only [hl1, hm,go_sem,↓reduceIte]
        repeat' first | refine And.intro ?_ ?_ | intro _
        all_goals first
          | omega
          | (refine ⟨_, ⟨.r .nil, [], [], gs, .inl ⟨rfl, rfl, rfl⟩, ⟨hX, hO⟩, rfl⟩, ?_⟩; (refine le_evg [] (by first | rfl | simp) ?_; simp only [hm,go_sem,↓reduceIte]; first | done | rfl | exact ⟨rfl, rfl⟩))
      | cons x0 X =>
        rw [msG_cons]
        rw [show ((x0 :: X).length) = X.length + 1 from rfl] at hie
        simp only [← hie, hm,go_sem,↓reduceIte]
        repeat' first | refine And.intro ?_ ?_ | intro _
        all_goals first
          | omega
          | (refine ⟨_, ⟨.sl 4 0 (x0 :: X).length, _, x0 :: X, gs, .inr ⟨rfl, rfl⟩, ⟨hX, hO⟩, rfl⟩, ?_⟩; (refine le_evg [] (by first | rfl | simp) ?_; simp only [hm,go_sem,↓reduceIte]; first | done | rfl | exact ⟨rfl, rfl⟩))
  rintro t0 ⟨ls, lh, X, gs, hls, ⟨hXa, hO⟩, rfl⟩
  have hXl : X.length = m.list.length := by rw [← hXa, List.length_map]
  have hX0 : X = [] → m.list = [] := fun h => by rw [← hXa, h]; rfl
  obtain ⟨R, hR⟩ : ∃ R, stepMon m text = R := ⟨_, rfl⟩
  rw [hR]
  unfold stepMon at hR
  obtain ⟨pg1, pg2, pg3⟩ := packGet_ok text
  generalize packGet text = pk at hpg pg1 pg2 pg3 hR
  obtain ⟨p, code⟩ := pk
  simp only at hpg pg1 pg2 pg3 hR
  unfold Packet.ro at hpg
  refine run_join (fun t => ∃ ls lh, ListG ls lh X ∧ t = ⟨[(2, .ptr 0 0 0), (4, .ptr 1 0 0), (5, .ptr 2 0 0), (8, .ptr 5 0 0), (9, .i code)], [(0, .var [.i m.records, .r (.ro none (m.list.map Assoc.row)), .r (.ro none (m.found.map Fnd.row))]), (1, .var [.i 0, .r .nil, .r .nil]), (2, .var [.i (m.records + 1), ls, .sl 3 0 m.found.length]), (3, .row 2 (m.found.map Fnd.row)), (5, .var [.i p.fr, .i p.to, .i p.tag, .r (.ro none (p.chunks.map Chunk.row))])] ++ lh, 6, gs⟩) (run_wpc _ _ _ _ _ ?_) ?_
  · rcases hls with ⟨rfl, rfl, hL⟩ | ⟨rfl, rfl⟩
    all_goals
      simp only [List.cons_append, List.nil_append, hm,go_sem,↓reduceIte]
      refine call_dataP (hP ▸ hpg) rfl rfl ?_
      simp only [hm,go_sem,↓reduceIte]
      repeat' first | refine And.intro ?_ ?_ | intro _
    all_goals first
      | omega
      | (refine ⟨_, ⟨.r .nil, [], .inl ⟨rfl, rfl, hL⟩, rfl⟩, ?_⟩; (refine le_evg [] (by first | rfl | simp) ?_; simp only [hm,go_sem,↓reduceIte]; first | done | rfl | exact ⟨rfl, rfl⟩))
      | (refine ⟨_, ⟨.sl 4 0 _, _, .inr ⟨rfl, rfl⟩, rfl⟩, ?_⟩; (refine le_evg [] (by first | rfl | simp) ?_; simp only [hm,go_sem,↓reduceIte]; first | done | rfl | exact ⟨rfl, rfl⟩))
  rintro t ⟨ls, lh, hls, rfl⟩
  clear hpg
  refine run_join (fun t => ∃ ls lh, ListG ls lh X ∧ t = ⟨[(2, .ptr 0 0 0), (4, .ptr 1 0 0), (5, .ptr 2 0 0), (8, .ptr 5 0 0)], [(0, .var [.i m.records, .r (.ro none (m.list.map Assoc.row)), .r (.ro none (m.found.map Fnd.row))]), (1, .var [.i 0, .r .nil, .r .nil]), (2, .var [.i (m.records + 1), ls, .sl 3 0 m.found.length]), (3, .row 2 (m.found.map Fnd.row)), (5, .var [.i p.fr, .i p.to, .i p.tag, .r (.ro none (p.chunks.map Chunk.row))])] ++ lh, 6, gs⟩ ∧ code = 0) (run_wpc _ _ _ _ _ ?_) ?_
  · have hwc : IntKind.i64.wrap (101 + code) = 101 + code := wrap64 (by omega) (by omega)
    have hwd : IntKind.i64.wrap (101 + code - 1) = 100 + code := by rw [wrap64 (by omega) (by omega)]; omega
    rcases hls with ⟨rfl, rfl, hL⟩ | ⟨rfl, rfl⟩
    all_goals
      simp only [List.cons_append, List.nil_append, hwc, hwd, take_map_len, List.length_map, hm,go_sem,↓reduceIte]
      repeat' first | refine And.intro ?_ ?_ | intro _
    all_goals first
      | omega
      | (refine ⟨_, ⟨.r .nil, [], .inl ⟨rfl, rfl, hL⟩, rfl, by assumption⟩, ?_⟩; (refine le_evg [] (by first | rfl | simp) ?_; simp only [hm,go_sem,↓reduceIte]; first | done | rfl | exact ⟨rfl, rfl⟩))
      | (refine ⟨_, ⟨.sl 4 0 _, _, .inr ⟨rfl, rfl⟩, rfl, by assumption⟩, ?_⟩; (refine le_evg [] (by first | rfl | simp) ?_; simp only [hm,go_sem,↓reduceIte]; first | done | rfl | exact ⟨rfl, rfl⟩))
      | (rw [if_pos (by assumption), note_eq] at hR; rw [← hR, note_row, note_len]; exact ⟨.inr (.inl ⟨hX0 hL, 3, rfl, rfl⟩)⟩)
      | (rw [if_pos (by assumption), note_eq] at hR; rw [← hR, note_row, note_len]; exact ⟨.inr (.inr ⟨3, 4, X, by decide, ⟨hXa, hO⟩, rfl, rfl, rfl⟩)⟩)
  rintro t ⟨ls, lh, hls, rfl, hcode⟩
  rw [if_neg (fun h => h hcode)] at hR
  have hpk := pg3 hcode
  clear pg1 pg2 pg3
  refine run_join (fun t => ∃ ls lh, ListG ls lh X ∧ t = ⟨[(2, .ptr 0 0 0), (4, .ptr 1 0 0), (5, .ptr 2 0 0), (8, .ptr 5 0 0), (10, .i (-1))], [(0, .var [.i m.records, .r (.ro none (m.list.map Assoc.row)), .r (.ro none (m.found.map Fnd.row))]), (1, .var [.i 0, .r .nil, .r .nil]), (2, .var [.i (m.records + 1), ls, .sl 3 0 m.found.length]), (3, .row 2 (m.found.map Fnd.row)), (5, .var [.i p.fr, .i p.to, .i p.tag, .r (.ro none (p.chunks.map Chunk.row))])] ++ lh, 6, gs⟩) (run_wpc _ _ _ _ _ ?_) ?_
  · rcases hls with ⟨rfl, rfl, hL⟩ | ⟨rfl, rfl⟩
    all_goals
      simp only [List.cons_append, List.nil_append, hm,go_sem,↓reduceIte]
    all_goals first
      | (refine ⟨_, ⟨.r .nil, [], .inl ⟨rfl, rfl, hL⟩, rfl⟩, ?_⟩; (refine le_evg [] (by first | rfl | simp) ?_; simp only [hm,go_sem,↓reduceIte]; first | done | rfl | exact ⟨rfl, rfl⟩))
      | (refine ⟨_, ⟨.sl 4 0 _, _, .inr ⟨rfl, rfl⟩, rfl⟩, ?_⟩; (refine le_evg [] (by first | rfl | simp) ?_; simp only [hm,go_sem,↓reduceIte]; first | done | rfl | exact ⟨rfl, rfl⟩))
  rintro t ⟨ls, lh, hls, rfl⟩
  refine run_seq ?_
  refine run_mono (n := fun t => ∃ s, (∃ ls lh, ListG ls lh X ∧ s = ⟨[(2, .ptr 0 0 0), (4, .ptr 1 0 0), (5, .ptr 2 0 0), (8, .ptr 5 0 0), (10, .i (ixI (findIx p.fr p.to m.list)))], [(0, .var [.i m.records, .r (.ro none (m.list.map Assoc.row)), .r (.ro none (m.found.map Fnd.row))]), (1, .var [.i 0, .r .nil, .r .nil]), (2, .var [.i (m.records + 1), ls, .sl 3 0 m.found.length]), (3, .row 2 (m.found.map Fnd.row)), (5, .var [.i p.fr, .i p.to, .i p.tag, .r (.ro none (p.chunks.map Chunk.row))])] ++ lh, 6, gs⟩) ∧ Le c t s) (x := fun _ _ => False) (r := fun _ => False) ?_ ?_ (fun _ _ h => h.elim) (fun _ h => h.elim)
  · rcases hls with ⟨rfl, rfl, hL⟩ | ⟨rfl, rfl⟩
    · refine run_wpc _ _ _ _ _ ?_
      simp only [List.append_nil, hm,go_sem,↓reduceIte]
      refine run_exit 2 (fun t0 => t0 = ⟨[(2, .ptr 0 0 0), (4, .ptr 1 0 0), (5, .ptr 2 0 0), (8, .ptr 5 0 0), (10, .i (ixI (findIx p.fr p.to m.list)))], [(0, .var [.i m.records, .r (.ro none (m.list.map Assoc.row)), .r (.ro none (m.found.map Fnd.row))]), (1, .var [.i 0, .r .nil, .r .nil]), (2, .var [.i (m.records + 1), .r .nil, .sl 3 0 m.found.length]), (3, .row 2 (m.found.map Fnd.row)), (5, .var [.i p.fr, .i p.to, .i p.tag, .r (.ro none (p.chunks.map Chunk.row))])], 6, gs⟩) ?_ (fun t0 h => ⟨_, ⟨.r .nil, [], .inl ⟨rfl, rfl, hL⟩, rfl⟩, by rw [h]; exact Le.refl _⟩)
      refine lp_wpc (α := Unit) (fun _ => ⟨[(2, .ptr 0 0 0), (4, .ptr 1 0 0), (5, .ptr 2 0 0), (8, .ptr 5 0 0), (10, .i (-1)), (71, .r .nil), (72, .i 0), (73, .i 0)], [(0, .var [.i m.records, .r (.ro none (m.list.map Assoc.row)), .r (.ro none (m.found.map Fnd.row))]), (1, .var [.i 0, .r .nil, .r .nil]), (2, .var [.i (m.records + 1), .r .nil, .sl 3 0 m.found.length]), (3, .row 2 (m.found.map Fnd.row)), (5, .var [.i p.fr, .i p.to, .i p.tag, .r (.ro none (p.chunks.map Chunk.row))])], 6, gs⟩) (fun _ => True) (fun _ => 0) () trivial (by (refine le_evg [] (by first | rfl | simp) ?_; simp only [hm,go_sem,↓reduceIte]; first | done | rfl | exact ⟨rfl, rfl⟩)) ?_
      intro _ _
      unfold pc17l1
      have hix : findIx p.fr p.to m.list = none := by rw [hX0 hL]; rfl
      rw [hix]
      simp only [hm,go_sem,↓reduceIte]
      repeat' first | refine And.intro ?_ ?_ | intro _
      all_goals first
        | omega
        | (refine ⟨_, rfl, ?_⟩; unfold ixI; (refine le_evg [] (by first | rfl | simp) ?_; simp only [hm,go_sem,↓reduceIte]; first | done | rfl | exact ⟨rfl, rfl⟩))
    · refine run_wpc _ _ _ _ _ ?_
      simp only [List.cons_append, List.nil_append, List.length_map, hm,go_sem,↓reduceIte]
      try intro _
      refine run_exit 2 (fun t0 => t0 = ⟨[(2, .ptr 0 0 0), (4, .ptr 1 0 0), (5, .ptr 2 0 0), (8, .ptr 5 0 0), (10, .i (ixI (findIx p.fr p.to m.list)))], [(0, .var [.i m.records, .r (.ro none (m.list.map Assoc.row)), .r (.ro none (m.found.map Fnd.row))]), (1, .var [.i 0, .r .nil, .r .nil]), (2, .var [.i (m.records + 1), .sl 4 0 X.length, .sl 3 0 m.found.length]), (3, .row 2 (m.found.map Fnd.row)), (5, .var [.i p.fr, .i p.to, .i p.tag, .r (.ro none (p.chunks.map Chunk.row))]), (4, .row 14 (X.map AG.row))], 6, gs⟩) ?_ (fun t0 h => ⟨_, ⟨.sl 4 0 X.length, _, .inr ⟨rfl, rfl⟩, rfl⟩, by rw [h]; exact Le.refl _⟩)
      refine lp_wpc (α := Nat) (fun i => ⟨[(2, .ptr 0 0 0), (4, .ptr 1 0 0), (5, .ptr 2 0 0), (8, .ptr 5 0 0), (10, .i (ixI (findIx p.fr p.to (m.list.take i)))), (71, .sl 4 0 X.length), (72, .i X.length), (73, .i i)], [(0, .var [.i m.records, .r (.ro none (m.list.map Assoc.row)), .r (.ro none (m.found.map Fnd.row))]), (1, .var [.i 0, .r .nil, .r .nil]), (2, .var [.i (m.records + 1), .sl 4 0 X.length, .sl 3 0 m.found.length]), (3, .row 2 (m.found.map Fnd.row)), (5, .var [.i p.fr, .i p.to, .i p.tag, .r (.ro none (p.chunks.map Chunk.row))]), (4, .row 14 (X.map AG.row))], 6, gs⟩)
        (fun i => i ≤ X.length) (fun i => X.length - i) 0 (Nat.zero_le _) (by rw [show ixI (findIx p.fr p.to (m.list.take 0)) = -1 from rfl]; (refine le_evg [] (by first | rfl | simp) ?_; simp only [hm,go_sem,↓reduceIte]; first | done | rfl | exact ⟨rfl, rfl⟩)) ?_
      intro i hi
      unfold pc17l1
      rcases Nat.lt_or_ge i X.length with hil | hil
      · have hw : IntKind.i64.wrap ((i : Int) + 1) = ((i + 1 : Nat) : Int) := by rw [wrap64 (by omega) (by omega)]; omega
        have hg := getD_map (f := AG.row) hil
        have hil2 : i < m.list.length := by omega
        have hxa : m.list[i] = X[i].a := by simp [← hXa]
        have hft := find_take v3 hil2 p.fr p.to
        rw [hxa] at hft
        clear hxa
        generalize X[i] = x at hg hft
        have hsp := s_samePorts x.a x.ca x.cb p.fr p.to
        unfold Assoc.av at hsp
        have hrow : x.row = [.n .i64 x.a.fr, .n .i64 x.a.to, .n .i64 x.a.state, .b x.a.byB, .n .i64 x.a.a.tag, .n .i64 x.a.a.streams, .n .i64 x.a.a.first, x.ca, .n .i64 x.a.a.acked, .n .i64 x.a.b.tag, .n .i64 x.a.b.streams, .n .i64 x.a.b.first, x.cb, .n .i64 x.a.b.acked] := rfl
        rw [hrow] at hg
        generalize pairB x.a p.fr p.to = pb at hsp hft
        simp only [hw, Int.toNat_natCast, List.length_map, hg, hm,go_sem,↓reduceIte]
        repeat' first
          | refine And.intro ?_ ?_
          | intro _
          | (refine call_pure (hP ▸ hsp) rfl rfl ?_; simp only [hw, Int.toNat_natCast, hg, hm,go_sem,↓reduceIte])
        all_goals first
          | omega
          | (rename_i hpb; refine ⟨i + 1, hil, by omega, ?_⟩; rw [hft, if_pos hpb]; unfold ixI; (refine le_evg [] (by first | rfl | simp) ?_; simp only [hm,go_sem,↓reduceIte]; first | done | rfl | exact ⟨rfl, rfl⟩))
          | (rename_i hpb; refine ⟨i + 1, hil, by omega, ?_⟩; rw [hft, if_neg (by rw [hpb]; decide)]; (refine le_evg [] (by first | rfl | simp) ?_; simp only [hm,go_sem,↓reduceIte]; first | done | rfl | exact ⟨rfl, rfl⟩))
      · have : i = X.length := by omega
        subst this
        rw [hXl, List.take_length]
        simp only [hm,go_sem,↓reduceIte]
        repeat' first | refine And.intro ?_ ?_ | intro _
        all_goals first
          | omega
          | (refine ⟨_, rfl, ?_⟩; (refine le_evg [] (by first | rfl | simp) ?_; simp only [hm,go_sem,↓reduceIte]; first | done | rfl | exact ⟨rfl, rfl⟩))
  rintro t ⟨s, ⟨ls, lh, hls, rfl⟩, hle⟩
  refine run_le hle ?_
  clear hle
  have hpb := hpk
  simp only [packB, Bool.and_eq_true, decide_eq_true_eq, List.all_eq_true, chunkB] at hpb
  have hc0 : 0 < p.chunks.length := by omega
  have hcl : p.chunks.length ≤ 4 := by omega
  refine run_join (fun t => ∃ ls lh Y at_, ListG ls lh Y ∧ t = ⟨[(2, .ptr 0 0 0), (4, .ptr 1 0 0), (5, .ptr 2 0 0), (8, .ptr 5 0 0), (10, .i (ixI at_))], [(0, .var [.i m.records, .r (.ro none (m.list.map Assoc.row)), .r (.ro none (m.found.map Fnd.row))]), (1, .var [.i 0, .r .nil, .r .nil]), (2, .var [.i (m.records + 1), ls, .sl 3 0 m.found.length]), (3, .row 2 (m.found.map Fnd.row)), (5, .var [.i p.fr, .i p.to, .i p.tag, .r (.ro none (p.chunks.map Chunk.row))])] ++ lh, 6, gs⟩ ∧ (Y.length ≤ 3 ∧ OkG Y gs) ∧ ((at_ = none ∧ R = beginMon ⟨m.records + 1, Y.map AG.a, m.found⟩ p) ∨ ∃ k, at_ = some k ∧ X = Y ∧ k < m.list.length ∧ pairB (assocAt m.list k) p.fr p.to = true ∧ R = note ⟨m.records + 1, m.list.set k (assocStep (assocAt m.list k) p).1, m.found⟩ (assocStep (assocAt m.list k) p).2)) (run_wpc _ _ _ _ _ ?_) ?_
  · cases hfx : findIx p.fr p.to m.list with
    | none =>
      rw [hfx] at hR
      simp only at hR
      rw [show ixI none = -1 from rfl]
      rcases hls with ⟨rfl, rfl, hL⟩ | ⟨rfl, rfl⟩
      all_goals
        simp only [List.append_nil, List.cons_append, List.nil_append, hm,go_sem,↓reduceIte]
        repeat' first | refine And.intro ?_ ?_ | intro _
      all_goals first
        | omega
        | (refine ⟨_, ⟨.r .nil, [], X, none, .inl ⟨rfl, rfl, hL⟩, rfl, ⟨by omega, hO⟩, .inl ⟨rfl, by rw [hXa]; exact hR.symm⟩⟩, ?_⟩; unfold ixI; (refine le_evg [] (by first | rfl | simp) ?_; simp only [hm,go_sem,↓reduceIte]; first | done | rfl | exact ⟨rfl, rfl⟩))
        | (refine ⟨_, ⟨.sl 4 0 X.length, _, X, none, .inr ⟨rfl, rfl⟩, rfl, ⟨by omega, hO⟩, .inl ⟨rfl, by rw [hXa]; exact hR.symm⟩⟩, ?_⟩; unfold ixI; (refine le_evg [] (by first | rfl | simp) ?_; simp only [hm,go_sem,↓reduceIte]; first | done | rfl | exact ⟨rfl, rfl⟩))
    | some k =>
      rw [hfx] at hR
      simp only at hR
      obtain ⟨hk, hkp⟩ := findIx_lt hfx
      rw [show ixI (some k) = (k : Int) from rfl]
      rcases hls with ⟨rfl, rfl, hL⟩ | ⟨rfl, rfl⟩
      · rw [hX0 hL] at hk; exact absurd hk (Nat.not_lt_zero _)
      have hkX : k < X.length := by omega
      have hg := getD_map (f := AG.row) hkX
      have hxa : m.list[k] = X[k].a := by simp [← hXa]
      have hg0 := getD_map (f := Chunk.row) hc0
      have hbo := (hpb.2 _ (List.getElem_mem hc0)).2
      have hag : againB (assocAt m.list k) p = true ↔ (assocAt m.list k).state = 7 ∧ p.tag = 0 ∧ p.chunks.length = 1 ∧ (p.chunks[0]).kind = 1 ∧ (initGet p.chunks[0]).isSome = true := by
        have hk0 : kind0 p = (p.chunks[0]).kind := by unfold kind0; simp [List.getD_eq_getElem?_getD, hc0]
        have hc1 : p.chunks.getD 0 default = p.chunks[0] := by simp [List.getD_eq_getElem?_getD, hc0]
        unfold againB
        rw [hk0, hc1]
        simp only [Bool.and_eq_true, decide_eq_true_eq]
        constructor
        · rintro ⟨⟨⟨⟨a1, a2⟩, a3⟩, a4⟩, a5⟩
          refine ⟨a1, a4, ?_, a2, a5⟩
          unfold aloneB at a3
          rw [hpk] at a3
          simp only [Bool.true_and, Bool.or_eq_true, decide_eq_true_eq, List.all_eq_true] at a3
          rcases a3 with h | h
          · exact h
          · have := h _ (List.getElem_mem hc0)
            rw [a2] at this
            exact absurd this (by decide)
        · rintro ⟨a1, a2, a3, a4, a5⟩
          refine ⟨⟨⟨⟨a1, a4⟩, ?_⟩, a2⟩, a5⟩
          unfold aloneB
          rw [hpk, decide_eq_true a3]
          rfl
      have hat := assocAt_eq hk
      rw [hat] at hR hag hkp
      rw [hxa] at hR hag hkp hat
      clear hxa
      generalize X[k] = x at hg hag hR hkp hat
      generalize p.chunks[0] = q at hg0 hag hbo
      have hig := s_implInitGet q (by omega)
      unfold Chunk.av Init.av at hig
      have hrow : x.row = [.n .i64 x.a.fr, .n .i64 x.a.to, .n .i64 x.a.state, .b x.a.byB, .n .i64 x.a.a.tag, .n .i64 x.a.a.streams, .n .i64 x.a.a.first, x.ca, .n .i64 x.a.a.acked, .n .i64 x.a.b.tag, .n .i64 x.a.b.streams, .n .i64 x.a.b.first, x.cb, .n .i64 x.a.b.acked] := rfl
      rw [hrow] at hg
      have hw : IntKind.i64.wrap ((k : Int) + 1) = ((k + 1 : Nat) : Int) := by rw [wrap64 (by omega) (by omega)]; omega
      have h00 : (0 : Int).toNat = 0 := rfl
      have hdl : (k - 0 + (List.take (X.length - (k + 1)) (List.drop (k + 1) (X.map AG.row))).length) = X.length - 1 := by rw [List.length_take, List.length_drop, List.length_map]; omega
      have hdr : List.take (k - 0) (X.map AG.row) ++ List.take (X.length - (k + 1)) (List.drop (k + 1) (X.map AG.row)) = (dropG X k).map AG.row := by
        unfold dropG
        rw [List.map_append, List.map_take, List.map_drop, Nat.sub_zero, List.take_of_length_le (i := X.length - (k + 1)) (by rw [List.length_drop, List.length_map]; omega)]
      have hdn0 : (dropG X k).length = X.length - 1 := by unfold dropG; rw [List.length_append, List.length_take, List.length_drop]; omega
      have hdl2 : (k - 0 + (List.take (X.length - (k + 1)) (List.drop (k + 1) (X.map AG.row))).length) = (dropG X k).length := by rw [hdl, hdn0]
      have hdn : (dropG X k).length ≤ 3 := by omega
      have hda : (dropG X k).map AG.a = dropAt m.list k := by unfold dropG dropAt; rw [List.map_append, List.map_take, List.map_drop, hXa]
      simp only [List.cons_append, List.nil_append, hw, Int.toNat_natCast, h00, hg, hg0, Chunk.row, List.length_map, hm,go_sem,↓reduceIte]
      repeat' first
        | refine And.intro ?_ ?_
        | intro _
        | (refine call_pure (hP ▸ hig) rfl rfl ?_; simp only [hw, Int.toNat_natCast, h00, hg, hg0, List.length_map, hm,go_sem,↓reduceIte])
      all_goals first
        | omega
        | (refine ⟨_, ⟨.sl 4 0 X.length, _, X, some k, .inr ⟨rfl, rfl⟩, rfl, ⟨by omega, hO⟩, .inr ⟨k, rfl, rfl, hk, by rw [hat]; exact hkp, ?_⟩⟩, ?_⟩
           · rw [← hR, if_neg (fun h => by have := hag.1 h; first | omega | (simp_all; done)), hat]
           · unfold ixI; (refine le_evg [] (by first | rfl | simp) ?_; simp only [hm,go_sem,↓reduceIte]; first | done | rfl | exact ⟨rfl, rfl⟩))
        | (rw [hdl]; omega)
        | (rw [hdr, hdl2]
           refine ⟨_, ⟨.sl 4 0 (dropG X k).length, _, dropG X k, none, .inr ⟨rfl, rfl⟩, rfl, ⟨hdn, hO.sub (dropG_sub X k)⟩, .inl ⟨rfl, ?_⟩⟩, ?_⟩
           · rw [hda, ← hR, if_pos (hag.2 ⟨by omega, by omega, by omega, by omega, by assumption⟩)]
           · unfold ixI; (refine le_evg [] (by first | rfl | simp) ?_; simp only [hm,go_sem,↓reduceIte]; first | done | rfl | exact ⟨rfl, rfl⟩))
  rintro t ⟨ls, lh, Y, at_, hls, rfl, ⟨hY3, hOY⟩, hW⟩
  clear hR
  refine run_join (fun t => ∃ ls lh, ListG ls lh Y ∧ t = ⟨[(2, .ptr 0 0 0), (4, .ptr 1 0 0), (5, .ptr 2 0 0), (8, .ptr 5 0 0), (10, .i (ixI at_)), (15, .sl 6 0 0)], [(0, .var [.i m.records, .r (.ro none (m.list.map Assoc.row)), .r (.ro none (m.found.map Fnd.row))]), (1, .var [.i 0, .r .nil, .r .nil]), (2, .var [.i (m.records + 1), ls, .sl 3 0 m.found.length]), (3, .row 2 (m.found.map Fnd.row)), (5, .var [.i p.fr, .i p.to, .i p.tag, .r (.ro none (p.chunks.map Chunk.row))]), (6, .row 1 [])] ++ lh, 7, gs⟩) (run_wpc _ _ _ _ _ ?_) ?_
  · rcases hls with ⟨rfl, rfl, hL⟩ | ⟨rfl, rfl⟩
    all_goals
      simp only [List.append_nil, List.cons_append, List.nil_append, hm,go_sem,↓reduceIte]
    all_goals first
      | (refine ⟨_, ⟨.r .nil, [], .inl ⟨rfl, rfl, hL⟩, rfl⟩, ?_⟩; (refine le_evg [] (by first | rfl | simp) ?_; simp only [hm,go_sem,↓reduceIte]; first | done | rfl | exact ⟨rfl, rfl⟩))
      | (refine ⟨_, ⟨.sl 4 0 Y.length, _, .inr ⟨rfl, rfl⟩, rfl⟩, ?_⟩; (refine le_evg [] (by first | rfl | simp) ?_; simp only [hm,go_sem,↓reduceIte]; first | done | rfl | exact ⟨rfl, rfl⟩))
  rintro t ⟨ls, lh, hls, rfl⟩
  have hg0 := getD_map (f := Chunk.row) hc0
  have hk0 : kind0 p = (p.chunks[0]).kind := by unfold kind0; simp [List.getD_eq_getElem?_getD, hc0]
  generalize p.chunks[0] = q at hg0 hk0
  have h00 : (0 : Int).toNat = 0 := rfl
  refine run_join (fun t => ∃ ls lh Z gs rules, ListG ls lh Z ∧ t = ⟨[(2, .ptr 0 0 0), (4, .ptr 1 0 0), (5, .ptr 2 0 0), (15, .r (.ro none (rules.map intRow)))], [(0, .var [.i m.records, .r (.ro none (m.list.map Assoc.row)), .r (.ro none (m.found.map Fnd.row))]), (1, .var [.i 0, .r .nil, .r .nil]), (2, .var [.i (m.records + 1), ls, .sl 3 0 m.found.length]), (3, .row 2 (m.found.map Fnd.row))] ++ lh, 5, gs⟩ ∧ rules.length ≤ 1000 ∧ R = ⟨m.records + 1, Z.map AG.a, m.found ++ notesOf m.records rules⟩ ∧ OkG Z gs) (run_wpc _ _ _ _ _ ?_) ?_
  · rcases hW with ⟨rfl, hR⟩ | ⟨k, rfl, rfl, hk, hkp, hR⟩
    · rw [show ixI none = -1 from rfl]
      unfold beginMon at hR
      simp only at hR
      rw [hk0] at hR
      by_cases hkd : q.kind = 1
      · rw [if_neg (fun h => h hkd)] at hR
        have hrl := rules_len ⟨p.fr, p.to, 0, false, noSide, noSide⟩ p
        have hst := s_implAssocStepG ⟨p.fr, p.to, 0, false, noSide, noSide⟩ p noSide_fit noSide_fit (step_no (new_assoc hpk) hpk (.inl ⟨rfl, rfl⟩))
        generalize assocStep ⟨p.fr, p.to, 0, false, noSide, noSide⟩ p = x at hst hR hrl
        obtain ⟨o, rs⟩ := x
        simp only at hst hR hrl
        have hu : Assoc.ro ⟨p.fr, p.to, 0, false, noSide, noSide⟩ = .agg [.i p.fr, .i p.to, .i 0, .bo false, .i 0, .i 0, .i 0, .r (.ro none []), .i 0, .i 0, .i 0, .i 0, .r (.ro none []), .i 0] := rfl
        rw [hu] at hst
        unfold Packet.ro at hst
        cases hrs : rs with
        | nil =>
          subst hrs
          rw [show rulesA [] = .r .nil from rfl] at hst
          rw [if_neg (by decide)] at hR
          by_cases h3 : 3 ≤ Y.length
          · rw [if_pos (by rw [List.length_map]; exact h3), note_eq] at hR
            rcases hls with ⟨rfl, rfl, hL⟩ | ⟨rfl, rfl⟩
            · rw [hL] at h3; exact absurd h3 (by decide)
            simp only [List.append_nil, List.cons_append, List.nil_append, h00, hg0, Chunk.row, hm,go_sem,↓reduceIte]
            repeat' first
              | refine And.intro ?_ ?_
              | intro _
              | (refine call_denil ?_; simp only [hm,go_sem,↓reduceIte]; refine call_gh (hP ▸ hst) rfl ?_; rintro r g0 ⟨x, hx, rfl, rfl⟩; refine ⟨rfl, ?_⟩; unfold AG.av Assoc.av; simp only [h00, hg0, hm,go_sem,↓reduceIte])
            all_goals first
              | omega
              | (refine ⟨_, ⟨.sl 4 0 Y.length, _, Y, x.gs ++ gs, [105], .inr ⟨rfl, rfl⟩, rfl, by simp, hR, hOY.more x.gs⟩, ?_⟩
                 refine Le.trans (le_frz 9 rfl (by simp only [List.length_cons, List.length_nil,go_sem,↓reduceIte]) (by simp only [go_sem, ↓reduceIte])) ?_
                 simp only [List.map_cons, List.map_nil, intRow, List.length_cons, List.length_nil, List.drop_zero, List.take_succ_cons, List.take_nil, List.take_zero,go_sem,↓reduceIte]
                 (refine le_evg [] (by first | rfl | simp) ?_; simp only [hm,go_sem,↓reduceIte]; first | done | rfl | exact ⟨rfl, rfl⟩))
          · rw [if_neg (by rw [List.length_map]; exact h3)] at hR
            have hR2 : ∀ x : AG, x.a = o → R = ⟨m.records + 1, (Y ++ [x]).map AG.a, m.found ++ notesOf m.records []⟩ := fun x hx => by rw [hR, List.map_append, List.map_cons, List.map_nil, hx]; simp [notesOf]
            have hmap : ∀ x : AG, (Y ++ [x]).map AG.row = Y.map AG.row ++ [[.n .i64 x.a.fr, .n .i64 x.a.to, .n .i64 x.a.state, .b x.a.byB, .n .i64 x.a.a.tag, .n .i64 x.a.a.streams, .n .i64 x.a.a.first, x.ca, .n .i64 x.a.a.acked, .n .i64 x.a.b.tag, .n .i64 x.a.b.streams, .n .i64 x.a.b.first, x.cb, .n .i64 x.a.b.acked]] := fun x => by rw [List.map_append]; rfl
            have hlen : ∀ x : AG, (Y ++ [x]).length = Y.length + 1 := fun x => by simp
            rcases hls with ⟨rfl, rfl, hL⟩ | ⟨rfl, rfl⟩
            all_goals
              simp only [List.append_nil, List.cons_append, List.nil_append, h00, hg0, Chunk.row, take_map_len, List.length_map, hm,go_sem,↓reduceIte]
              repeat' first
                | refine And.intro ?_ ?_
                | intro _
                | (refine call_denil ?_; simp only [hm,go_sem,↓reduceIte]; refine call_gh (hP ▸ hst) rfl ?_; rintro r g0 ⟨x, hx, rfl, rfl⟩; refine ⟨rfl, ?_⟩; unfold AG.av Assoc.av; simp only [h00, hg0, take_map_len, List.length_map, hm,go_sem,↓reduceIte])
            all_goals first
              | omega
              | (refine ⟨_, ⟨.sl 4 0 (Y ++ [x]).length, _, Y ++ [x], _, [], .inr ⟨rfl, rfl⟩, rfl, by simp, hR2 x hx, hOY.snoc x⟩, ?_⟩
                 refine Le.trans (t := ⟨[(2, .ptr 0 0 0), (4, .ptr 1 0 0), (5, .ptr 2 0 0), (15, .r .nil)], [(0, .var [.i m.records, .r (.ro none (m.list.map Assoc.row)), .r (.ro none (m.found.map Fnd.row))]), (1, .var [.i 0, .r .nil, .r .nil]), (2, .var [.i (m.records + 1), .sl 4 0 (Y ++ [x]).length, .sl 3 0 m.found.length]), (3, .row 2 (m.found.map Fnd.row)), (4, .row 14 ((Y ++ [x]).map AG.row))], 5, x.gs ++ gs⟩) (by rw [hmap, hlen]; (refine le_evg [] (by first | rfl | simp) ?_; simp only [hm,go_sem,↓reduceIte]; first | done | rfl | exact ⟨rfl, rfl⟩)) ?_
                 exact le_denilS)
              | (refine ⟨_, ⟨.sl 4 0 (Y ++ [x]).length, _, Y ++ [x], _, [], .inr ⟨rfl, rfl⟩, rfl, by simp, hR2 x hx, hOY.snoc x⟩, ?_⟩
                 refine Le.trans (t := ⟨[(2, .ptr 0 0 0), (4, .ptr 1 0 0), (5, .ptr 2 0 0), (15, .r .nil)], [(0, .var [.i m.records, .r (.ro none (m.list.map Assoc.row)), .r (.ro none (m.found.map Fnd.row))]), (1, .var [.i 0, .r .nil, .r .nil]), (2, .var [.i (m.records + 1), .sl 4 0 (Y ++ [x]).length, .sl 3 0 m.found.length]), (3, .row 2 (m.found.map Fnd.row)), (4, .row 14 ((Y ++ [x]).map AG.row))], 5, x.gs ++ gs⟩) (by rw [hmap, hlen, hL]; simp only [List.map_nil, List.nil_append, List.length_nil]; (refine le_evg [(4, 9)] (by first | rfl | simp) ?_; simp only [hm,go_sem,↓reduceIte]; first | done | rfl | exact ⟨rfl, rfl⟩)) ?_
                 exact le_denilS)
        | cons r0 rs0 =>
          have hra : rulesA rs = .r (.ro none (rs.map intRow)) := by rw [hrs]; rfl
          have hne : rs.isEmpty = false := by rw [hrs]; rfl
          have hnl : rs.length ≠ 0 := by rw [hrs]; simp
          rw [hra] at hst
          rw [hne, if_pos (by decide), note_eq] at hR
          clear hra hrs
          rcases hls with ⟨rfl, rfl, hL⟩ | ⟨rfl, rfl⟩
          all_goals
            simp only [List.append_nil, List.cons_append, List.nil_append, h00, hg0, Chunk.row, hm,go_sem,↓reduceIte]
            repeat' first
              | refine And.intro ?_ ?_
              | intro _
              | (refine call_denil ?_; simp only [hm,go_sem,↓reduceIte]; refine call_gh (hP ▸ hst) rfl ?_; rintro r g0 ⟨x, hx, rfl, rfl⟩; refine ⟨rfl, ?_⟩; unfold AG.av Assoc.av; simp only [h00, hg0, hm,go_sem,↓reduceIte])
          all_goals first
            | omega
            | (refine ⟨_, ⟨.r .nil, [], Y, x.gs ++ gs, rs, .inl ⟨rfl, rfl, hL⟩, rfl, by omega, hR, hOY.more x.gs⟩, ?_⟩; (refine le_evg [] (by first | rfl | simp) ?_; simp only [hm,go_sem,↓reduceIte]; first | done | rfl | exact ⟨rfl, rfl⟩))
            | (refine ⟨_, ⟨.sl 4 0 Y.length, _, Y, x.gs ++ gs, rs, .inr ⟨rfl, rfl⟩, rfl, by omega, hR, hOY.more x.gs⟩, ?_⟩; (refine le_evg [] (by first | rfl | simp) ?_; simp only [hm,go_sem,↓reduceIte]; first | done | rfl | exact ⟨rfl, rfl⟩))
      · rw [if_pos hkd, note_eq] at hR
        rcases hls with ⟨rfl, rfl, hL⟩ | ⟨rfl, rfl⟩
        all_goals
          simp only [List.append_nil, List.cons_append, List.nil_append, h00, hg0, Chunk.row, hm,go_sem,↓reduceIte]
          repeat' first
            | refine And.intro ?_ ?_
            | intro _
        all_goals first
          | omega
          | (first
             | (refine ⟨_, ⟨.r .nil, [], Y, gs, [104], .inl ⟨rfl, rfl, hL⟩, rfl, by simp, hR, hOY⟩, ?_⟩
                refine Le.trans (le_frz 6 rfl (by simp only [List.length_cons, List.length_nil,go_sem,↓reduceIte]) (by simp only [go_sem, ↓reduceIte])) ?_
                simp only [List.map_cons, List.map_nil, intRow, List.length_cons, List.length_nil, List.drop_zero, List.take_succ_cons, List.take_nil, List.take_zero,go_sem,↓reduceIte]
                (refine le_evg [] (by first | rfl | simp) ?_; simp only [hm,go_sem,↓reduceIte]; first | done | rfl | exact ⟨rfl, rfl⟩))
             | (refine ⟨_, ⟨.sl 4 0 Y.length, _, Y, gs, [104], .inr ⟨rfl, rfl⟩, rfl, by simp, hR, hOY⟩, ?_⟩
                refine Le.trans (le_frz 6 rfl (by simp only [List.length_cons, List.length_nil,go_sem,↓reduceIte]) (by simp only [go_sem, ↓reduceIte])) ?_
                simp only [List.map_cons, List.map_nil, intRow, List.length_cons, List.length_nil, List.drop_zero, List.take_succ_cons, List.take_nil, List.take_zero,go_sem,↓reduceIte]
                (refine le_evg [] (by first | rfl | simp) ?_; simp only [hm,go_sem,↓reduceIte]; first | done | rfl | exact ⟨rfl, rfl⟩))
            )
    · rcases hls with ⟨rfl, rfl, hL⟩ | ⟨rfl, rfl⟩
      · rw [hX0 hL] at hk; exact absurd hk (Nat.not_lt_zero _)
      have hkX : k < X.length := by omega
      have hg := getD_map (f := AG.row) hkX
      have hxa : m.list[k] = X[k].a := by simp [← hXa]
      rw [assocAt_eq hk] at hkp hR
      have hav := hsv _ (List.getElem_mem hk)
      obtain ⟨hfa, hfb⟩ := hf.a _ (List.getElem_mem hk)
      rw [hxa] at hkp hR hav hfa hfb
      clear hxa
      generalize X[k] = y at hg hkp hR hav hfa hfb
      simp only [pairB, decide_eq_true_eq] at hkp
      have hst := s_implAssocStepG y.a p hfa hfb (step_no hav hpk (by omega))
      have hrl := rules_len y.a p
      generalize assocStep y.a p = x at hst hR hrl
      obtain ⟨o, rs⟩ := x
      simp only at hst hR hrl
      have hst := Spec.args (as1 := [.agg (y.row.map .r), p.ro]) hst fun M ι vs hv => ⟨hv.1, fun j a0 v h1 h2 => by
        match j, h1, h2 with
        | 0, h1, h2 =>
          cases h1
          exact AG.weak (hv.2 0 _ v rfl h2)
        | 1, h1, h2 => cases h1; exact hv.2 1 _ v rfl h2
        | j + 2, h1, h2 => cases h1⟩
      unfold Packet.ro at hst
      have hrow : y.row = [.n .i64 y.a.fr, .n .i64 y.a.to, .n .i64 y.a.state, .b y.a.byB, .n .i64 y.a.a.tag, .n .i64 y.a.a.streams, .n .i64 y.a.a.first, y.ca, .n .i64 y.a.a.acked, .n .i64 y.a.b.tag, .n .i64 y.a.b.streams, .n .i64 y.a.b.first, y.cb, .n .i64 y.a.b.acked] := rfl
      rw [hrow] at hg hst
      simp only [List.map_cons, List.map_nil] at hst
      rw [show ixI (some k) = (k : Int) from rfl]
      have hset : ∀ x : AG, (X.map AG.row).set k [.n .i64 x.a.fr, .n .i64 x.a.to, .n .i64 x.a.state, .b x.a.byB, .n .i64 x.a.a.tag, .n .i64 x.a.a.streams, .n .i64 x.a.a.first, x.ca, .n .i64 x.a.a.acked, .n .i64 x.a.b.tag, .n .i64 x.a.b.streams, .n .i64 x.a.b.first, x.cb, .n .i64 x.a.b.acked] = (X.set k x).map AG.row := fun x => by rw [List.map_set]; rfl
      have hsl : ∀ x : AG, (X.set k x).length = X.length := fun x => List.length_set
      have hsa : ∀ x : AG, x.a = o → (X.set k x).map AG.a = m.list.set k o := fun x hx => by rw [List.map_set, hXa, hx]
      rw [note_eq] at hR
      cases hrs : rs with
      | nil =>
        subst hrs
        rw [show rulesA [] = .r .nil from rfl] at hst
        simp only [List.cons_append, List.nil_append, Int.toNat_natCast, hg, List.length_map, hm,go_sem,↓reduceIte]
        repeat' first
          | refine And.intro ?_ ?_
          | intro _
          | (refine call_gh (hP ▸ hst) rfl ?_; rintro r g0 ⟨x, hx, rfl, rfl⟩; refine ⟨rfl, ?_⟩; unfold AG.av Assoc.av; simp only [Int.toNat_natCast, hg, List.length_map, hm,go_sem,↓reduceIte])
        all_goals first
          | omega
          | (rw [hset, ← hsl x]
             refine ⟨_, ⟨.sl 4 0 (X.set k x).length, _, X.set k x, _, [], .inr ⟨rfl, rfl⟩, rfl, by simp, by rw [hsa x hx]; exact hR, hOY.set k x⟩, ?_⟩
             refine Le.trans (t := ⟨[(2, .ptr 0 0 0), (4, .ptr 1 0 0), (5, .ptr 2 0 0), (15, .r .nil)], [(0, .var [.i m.records, .r (.ro none (m.list.map Assoc.row)), .r (.ro none (m.found.map Fnd.row))]), (1, .var [.i 0, .r .nil, .r .nil]), (2, .var [.i (m.records + 1), .sl 4 0 (X.set k x).length, .sl 3 0 m.found.length]), (3, .row 2 (m.found.map Fnd.row)), (4, .row 14 ((X.set k x).map AG.row))], 5, x.gs ++ gs⟩) (by (refine le_evg [] (by first | rfl | simp) ?_; simp only [hm,go_sem,↓reduceIte]; first | done | rfl | exact ⟨rfl, rfl⟩)) ?_
             exact le_denilS)
      | cons r0 rs0 =>
        have hra : rulesA rs = .r (.ro none (rs.map intRow)) := by rw [hrs]; rfl
        rw [hra] at hst
        clear hra hrs
        simp only [List.cons_append, List.nil_append, Int.toNat_natCast, hg, List.length_map, hm,go_sem,↓reduceIte]
        repeat' first
          | refine And.intro ?_ ?_
          | intro _
          | (refine call_gh (hP ▸ hst) rfl ?_; rintro r g0 ⟨x, hx, rfl, rfl⟩; refine ⟨rfl, ?_⟩; unfold AG.av Assoc.av; simp only [Int.toNat_natCast, hg, List.length_map, hm,go_sem,↓reduceIte])
        all_goals first
          | omega
          | (rw [hset, ← hsl x]
             refine ⟨_, ⟨.sl 4 0 (X.set k x).length, _, X.set k x, _, rs, .inr ⟨rfl, rfl⟩, rfl, by omega, by rw [hsa x hx]; exact hR, hOY.set k x⟩, ?_⟩
             (refine le_evg [] (by first | rfl | simp) ?_; simp only [hm,go_sem,↓reduceIte]; first | done | rfl | exact ⟨rfl, rfl⟩))
  rintro t ⟨ls, lh, Z, gs, rules, hls, rfl, hrl, hR, hOZ⟩
  obtain ⟨G, hG⟩ : ∃ G, G = m.found ++ notesOf m.records rules := ⟨_, rfl⟩
  rw [← hG] at hR
  refine run_seq ?_
  refine run_mono (n := fun t => ∃ s, (∃ ls lh, ListG ls lh Z ∧ s = ⟨[(4, .ptr 1 0 0), (5, .ptr 2 0 0)], [(1, .var [.i 0, .r .nil, .r .nil]), (2, .var [.i (m.records + 1), ls, .sl 3 0 G.length]), (3, .row 2 (G.map Fnd.row))] ++ lh, 5, gs⟩) ∧ Le c t s) (x := fun _ _ => False) (r := fun _ => False) ?_ ?_ (fun _ _ h => h.elim) (fun _ h => h.elim)
  · rcases hls with ⟨rfl, rfl, hL⟩ | ⟨rfl, rfl⟩
    · refine run_wpc _ _ _ _ _ ?_
      simp only [List.append_nil, hm,go_sem,↓reduceIte]
      intro _
      refine note_loopG hP hm m.records rules hrl (.ro none (m.list.map Assoc.row)) (.ro none (m.found.map Fnd.row)) m.found (by omega) (L := Z) (.inl ⟨rfl, rfl, hL⟩) (by simp only [List.append_nil]; (refine le_evg [] (by first | rfl | simp) ?_; simp only [hm,go_sem,↓reduceIte]; first | done | rfl | exact ⟨rfl, rfl⟩)) ?_
      exact ⟨_, ⟨.r .nil, [], .inl ⟨rfl, rfl, hL⟩, rfl⟩, by rw [hG]; exact Le.refl _⟩
    · refine run_wpc _ _ _ _ _ ?_
      simp only [List.cons_append, List.nil_append, hm,go_sem,↓reduceIte]
      intro _
      refine note_loopG hP hm m.records rules hrl (.ro none (m.list.map Assoc.row)) (.ro none (m.found.map Fnd.row)) m.found (by omega) (L := Z) (.inr ⟨rfl, rfl⟩) (by simp only [List.cons_append, List.nil_append]; (refine le_evg [] (by first | rfl | simp) ?_; simp only [hm,go_sem,↓reduceIte]; first | done | rfl | exact ⟨rfl, rfl⟩)) ?_
      exact ⟨_, ⟨.sl 4 0 Z.length, _, .inr ⟨rfl, rfl⟩, rfl⟩, by rw [hG]; exact Le.refl _⟩
  rintro t ⟨s, ⟨ls, lh, hls, rfl⟩, hle⟩
  refine run_le hle ?_
  rw [hR]
  clear hG
  refine run_wpc _ _ _ _ _ ?_
  rcases hls with ⟨rfl, rfl, hL⟩ | ⟨rfl, rfl⟩
  · simp only [List.append_nil, hm,go_sem,↓reduceIte]
    exact ⟨.inr (.inl ⟨by rw [hL]; rfl, 3, rfl, rfl⟩)⟩
  · simp only [List.cons_append, List.nil_append, hm,go_sem,↓reduceIte]
    exact ⟨.inr (.inr ⟨3, 4, Z, by decide, ⟨rfl, hOZ⟩, rfl, rfl, rfl⟩)⟩
end Go.Cap
namespace Go.Cap
def sAt (t : Talk) (b : Bool) (j : Nat) : Side := ⟨(t.init b).tag, (t.init b).streams, (t.init b).tsn, sideL b (t.all.take j), (sideL b (t.all.take j)).length⟩
def aAt (t : Talk) (j : Nat) : Assoc := ⟨t.fr, t.to, 4, false, sAt t false j, sAt t true j⟩
def aNew (t : Talk) : Assoc := ⟨t.fr, t.to, 0, false, noSide, noSide⟩
def h1 (t : Talk) : Assoc := ⟨t.fr, t.to, 1, false, sAt t false 0, noSide⟩
def h2 (t : Talk) : Assoc := { aAt t 0 with state := 2 }
def h3 (t : Talk) : Assoc := { aAt t 0 with state := 3 }
def e6 (t : Talk) : Assoc := { aAt t t.all.length with state := 6 }
def e7 (t : Talk) : Assoc := { aAt t t.all.length with state := 7 }
theorem sAt_zero (t : Talk) (b : Bool) : sAt t b 0 = ⟨(t.init b).tag, (t.init b).streams, (t.init b).tsn, [], 0⟩ := by simp [sAt, sideL]
theorem s1 {t : Talk} (hv : talkB t = true) : stepChunk (aNew t) false (initPut t.a false) = (h1 t, 0) := by
  have hi := init_get (show initB t.a = true from init_ok hv false) false
  have hk : (initPut t.a false).kind = 1 := rfl
  unfold stepChunk stepInit
  simp only [hk, hi]
  simp [aNew, h1, inB, Assoc.put, sAt_zero, Talk.init]
theorem s2 {t : Talk} (hv : talkB t = true) : stepChunk (h1 t) true (initPut t.b true) = (h2 t, 0) := by
  have hi := init_get (show initB t.b = true from init_ok hv true) true
  have hk : (initPut t.b true).kind = 2 := rfl
  unfold stepChunk stepInit
  simp only [hk, hi]
  simp [h1, h2, aAt, inB, Assoc.put, sAt_zero, Talk.init]
def p0 (t : Talk) : Packet := ⟨t.fr, t.to, 0, [initPut t.a false]⟩
end Go.Cap
namespace Go.Cap
attribute [local irreducible] Call Run Spec Le
theorem gc_clos {gs : List Nat} {g : Nat} {l : List Data} (hg : l ≠ [] → g ∈ gs) : closRG gs (gc g (l.map Data.row)) := by
  unfold gc
  cases l with
  | nil => exact .inr (.inl rfl)
  | cons d l => exact .inr (.inr ⟨g, _, hg (by simp), rfl, dataClosed _⟩)
theorem AG.gs_mem {x : AG} : (x.a.a.sent ≠ [] → x.ga ∈ x.gs) ∧ (x.a.b.sent ≠ [] → x.gb ∈ x.gs) := by
  unfold AG.gs gl
  constructor
  · intro h
    cases hs : x.a.a.sent with
    | nil => exact absurd hs h
    | cons => exact List.mem_append_right _ (by simp)
  · intro h
    cases hs : x.a.b.sent with
    | nil => exact absurd hs h
    | cons => exact List.mem_append_left _ (by simp)
theorem ag_clos {X : List AG} {gs : List Nat} (h : OkG X gs) : ∀ r ∈ X.map AG.row, ∀ y ∈ r, closRG gs y := fun r hr y hy => by
  obtain ⟨x, hx, rfl⟩ := List.mem_map.1 hr
  have hm : ∀ g, g ∈ x.gs → g ∈ gs := fun g hg => h.1 g (List.mem_flatMap.2 ⟨x, hx, hg⟩)
  simp only [AG.row, Assoc.cellsX, List.mem_cons, List.not_mem_nil, or_false] at hy
  rcases hy with rfl | rfl | rfl | rfl | rfl | rfl | rfl | rfl | rfl | rfl | rfl | rfl | rfl | rfl
  case inr.inr.inr.inr.inr.inr.inr.inl => exact gc_clos fun hne => hm _ (AG.gs_mem.1 hne)
  case inr.inr.inr.inr.inr.inr.inr.inr.inr.inr.inr.inr.inl => exact gc_clos fun hne => hm _ (AG.gs_mem.2 hne)
  all_goals exact .inl rfl
structure RunQ (m' : Mon) (r : AV) (hp : List (Nat × Blk)) (nx : Nat) (gs : List Nat) : Prop where
  h : (m' = noMon ∧ r = .agg [.i 0, .r .nil, .r .nil]) ∨
    (m'.list = [] ∧ ∃ b, r = .agg [.i m'.records, .r .nil, .sl b 0 m'.found.length] ∧ hget hp b = some (.row 2 (m'.found.map Fnd.row))) ∨
    (∃ b b1 X, b ≠ b1 ∧ (X.map AG.a = m'.list ∧ OkG X gs) ∧ r = .agg [.i m'.records, .sl b1 0 X.length, .sl b 0 m'.found.length] ∧ hget hp b = some (.row 2 (m'.found.map Fnd.row)) ∧ hget hp b1 = some (.row 14 (X.map AG.row)))
def ne (n : Nat) : Nat := if n = 0 then 0 else 1
def sz2 (a : Assoc) : Nat × Nat := (a.a.sent.length, a.b.sent.length)
def offS : List (Nat × Nat) → Nat → Nat
  | [], _ => 0
  | _ :: _, 0 => 0
  | s :: l, i + 1 => ne s.1 + ne s.2 + offS l i
def dn (g : Nat) (l : List Data) : List (Nat × Nat × List (List RV)) := if l.isEmpty then [] else [(g, 7, l.map Data.row)]
theorem dn_nil {g : Nat} {l : List Data} (h : l = []) : dn g l = [] ∧ ne l.length = 0 := by subst h; exact ⟨rfl, rfl⟩
theorem dn_cons {g : Nat} {l : List Data} (h : l ≠ []) : dn g l = [(g, 7, l.map Data.row)] ∧ ne l.length = 1 := by
  cases l with
  | nil => exact absurd rfl h
  | cons => exact ⟨rfl, rfl⟩
theorem dn_len (g : Nat) (l : List Data) : (dn g l).length = ne l.length := by
  by_cases h : l = []
  · rw [(dn_nil h).1, (dn_nil (g := g) h).2]; rfl
  · rw [(dn_cons h).1, (dn_cons (g := g) h).2]; rfl
def DX (X : List AG) : List (Nat × Nat × List (List RV)) := X.flatMap fun x => dn x.ga x.a.a.sent ++ dn x.gb x.a.b.sent
def NX (X : List AG) : NL := (DX X).map some
def szX (X : List AG) : List (Nat × Nat) := X.map fun x => sz2 x.a
theorem DX_cons (x : AG) (X : List AG) : DX (x :: X) = (dn x.ga x.a.a.sent ++ dn x.gb x.a.b.sent) ++ DX X := by unfold DX; rw [List.flatMap_cons]
theorem two_len (x : AG) : (dn x.ga x.a.a.sent ++ dn x.gb x.a.b.sent).length = ne x.a.a.sent.length + ne x.a.b.sent.length := by rw [List.length_append, dn_len, dn_len]
theorem DX_len : ∀ X : List AG, (DX X).length = offS (szX X) X.length
  | [] => rfl
  | x :: X => by
    rw [DX_cons, List.length_append, two_len, DX_len X]
    rfl
theorem dx_at : ∀ {X : List AG} {i : Nat} {x : AG}, X[i]? = some x → (x.a.a.sent ≠ [] → (DX X)[offS (szX X) i]? = some (x.ga, 7, x.a.a.sent.map Data.row)) ∧ (x.a.b.sent ≠ [] → (DX X)[offS (szX X) i + ne x.a.a.sent.length]? = some (x.gb, 7, x.a.b.sent.map Data.row))
  | [], i, x, h => by simp at h
  | y :: X, 0, x, h => by
    simp only [List.getElem?_cons_zero, Option.some.injEq] at h
    subst h
    rw [DX_cons]
    show (_ → (_ ++ DX X)[0]? = _) ∧ (_ → (_ ++ DX X)[0 + ne y.a.a.sent.length]? = _)
    refine ⟨fun ha => ?_, fun hb => ?_⟩
    · rw [(dn_cons (g := y.ga) ha).1]; rfl
    · by_cases ha : y.a.a.sent = []
      · rw [(dn_nil (g := y.ga) ha).1, (dn_nil (g := y.ga) ha).2, (dn_cons (g := y.gb) hb).1]; rfl
      · rw [(dn_cons (g := y.ga) ha).1, (dn_cons (g := y.ga) ha).2, (dn_cons (g := y.gb) hb).1]; rfl
  | y :: X, i + 1, x, h => by
    simp only [List.getElem?_cons_succ] at h
    obtain ⟨h1, h2⟩ := dx_at h
    rw [DX_cons]
    have e : offS (szX (y :: X)) (i + 1) = ne y.a.a.sent.length + ne y.a.b.sent.length + offS (szX X) i := rfl
    have hl := two_len y
    rw [e]
    refine ⟨fun ha => ?_, fun hb => ?_⟩
    · rw [List.getElem?_append_right (by omega), hl, Nat.add_sub_cancel_left]
      exact h1 ha
    · rw [Nat.add_assoc, List.getElem?_append_right (by omega), hl, Nat.add_sub_cancel_left]
      exact h2 hb
theorem dx_get : ∀ {X : List AG} {k : Nat} {p : Nat × Nat × List (List RV)}, (DX X)[k]? = some p → ∃ i x, X[i]? = some x ∧ ((x.a.a.sent ≠ [] ∧ p = (x.ga, 7, x.a.a.sent.map Data.row) ∧ k = offS (szX X) i) ∨ (x.a.b.sent ≠ [] ∧ p = (x.gb, 7, x.a.b.sent.map Data.row) ∧ k = offS (szX X) i + ne x.a.a.sent.length))
  | [], k, p, h => by simp [DX] at h
  | y :: X, k, p, h => by
    rw [DX_cons] at h
    have hl := two_len y
    rcases Nat.lt_or_ge k (ne y.a.a.sent.length + ne y.a.b.sent.length) with hk | hk
    · rw [List.getElem?_append_left (by omega)] at h
      refine ⟨0, y, rfl, ?_⟩
      show (_ ∧ _ ∧ k = 0) ∨ (_ ∧ _ ∧ k = 0 + ne y.a.a.sent.length)
      by_cases ha : y.a.a.sent = []
      · have hn := (dn_nil (g := y.ga) ha).2
        by_cases hb : y.a.b.sent = []
        · have := (dn_nil (g := y.gb) hb).2; omega
        · have hn2 := (dn_cons (g := y.gb) hb).2
          rw [(dn_nil (g := y.ga) ha).1, (dn_cons (g := y.gb) hb).1] at h
          have : k = 0 := by omega
          subst this
          exact .inr ⟨hb, (Option.some.inj h).symm, by omega⟩
      · have hn := (dn_cons (g := y.ga) ha).2
        by_cases hb : y.a.b.sent = []
        · have hn2 := (dn_nil (g := y.gb) hb).2
          rw [(dn_cons (g := y.ga) ha).1, (dn_nil (g := y.gb) hb).1] at h
          have : k = 0 := by omega
          subst this
          exact .inl ⟨ha, (Option.some.inj h).symm, rfl⟩
        · have hn2 := (dn_cons (g := y.gb) hb).2
          rw [(dn_cons (g := y.ga) ha).1, (dn_cons (g := y.gb) hb).1] at h
          have : k = 0 ∨ k = 1 := by omega
          rcases this with rfl | rfl
          · exact .inl ⟨ha, (Option.some.inj h).symm, rfl⟩
          · exact .inr ⟨hb, (Option.some.inj h).symm, by omega⟩
    · rw [List.getElem?_append_right (by omega), hl] at h
      obtain ⟨i, x, h1, h2⟩ := dx_get h
      refine ⟨i + 1, x, h1, ?_⟩
      have e : offS (szX (y :: X)) (i + 1) = ne y.a.a.sent.length + ne y.a.b.sent.length + offS (szX X) i := rfl
      rw [e]
      rcases h2 with ⟨q1, q2, q3⟩ | ⟨q1, q2, q3⟩
      · exact .inl ⟨q1, q2, by omega⟩
      · exact .inr ⟨q1, q2, by omega⟩
theorem NX_at {X : List AG} {k : Nat} {p : Nat × Nat × List (List RV)} : (NX X)[k]? = some (some p) ↔ (DX X)[k]? = some p := by
  unfold NX
  rw [List.getElem?_map]
  cases (DX X)[k]? with
  | none => simp
  | some q => simp
theorem nx_get {X : List AG} {k : Nat} {p : Nat × Nat × List (List RV)} (h : (NX X)[k]? = some (some p)) : ∃ i x, X[i]? = some x ∧ ((k = offS (szX X) i ∧ x.a.a.sent ≠ [] ∧ p = (x.ga, 7, x.a.a.sent.map Data.row)) ∨ (k = offS (szX X) i + ne x.a.a.sent.length ∧ x.a.b.sent ≠ [] ∧ p = (x.gb, 7, x.a.b.sent.map Data.row))) := by
  obtain ⟨i, x, h1, h2⟩ := dx_get (NX_at.1 h)
  refine ⟨i, x, h1, ?_⟩
  rcases h2 with ⟨q1, q2, q3⟩ | ⟨q1, q2, q3⟩
  · exact .inl ⟨q3, q1, q2⟩
  · exact .inr ⟨q3, q1, q2⟩
theorem nx_at {X : List AG} {i : Nat} {x : AG} (h : X[i]? = some x) : (x.a.a.sent ≠ [] → (NX X)[offS (szX X) i]? = some (some (x.ga, 7, x.a.a.sent.map Data.row))) ∧ (x.a.b.sent ≠ [] → (NX X)[offS (szX X) i + ne x.a.a.sent.length]? = some (some (x.gb, 7, x.a.b.sent.map Data.row))) := by
  obtain ⟨h1, h2⟩ := dx_at h
  exact ⟨fun ha => NX_at.2 (h1 ha), fun hb => NX_at.2 (h2 hb)⟩
theorem flat_nd1 {f : AG → List Nat} {x : AG} (X : List AG) : (X.flatMap f).Nodup → x ∈ X → (f x).Nodup := by
  induction X with
  | nil => intro _ h; cases h
  | cons y X ih =>
    intro hn hx
    rw [List.flatMap_cons] at hn
    obtain ⟨n1, n2, _⟩ := List.nodup_append.1 hn
    rcases List.mem_cons.1 hx with rfl | hx
    · exact n1
    · exact ih n2 hx
theorem flat_idx {f : AG → List Nat} {x x' : AG} {g : Nat} (m1 : g ∈ f x) (m2 : g ∈ f x') (X : List AG) : (X.flatMap f).Nodup → ∀ i i' : Nat, X[i]? = some x → X[i']? = some x' → i = i' := by
  induction X with
  | nil => intro _ i i' h; simp at h
  | cons y X ih =>
    intro hn i i' h1 h2
    rw [List.flatMap_cons] at hn
    obtain ⟨n1, n2, n3⟩ := List.nodup_append.1 hn
    cases i with
    | zero =>
      cases i' with
      | zero => rfl
      | succ i' =>
        simp only [List.getElem?_cons_zero, Option.some.injEq] at h1
        simp only [List.getElem?_cons_succ] at h2
        subst h1
        exact absurd rfl (n3 g m1 g (List.mem_flatMap.2 ⟨x', List.mem_of_getElem? h2, m2⟩))
    | succ i =>
      simp only [List.getElem?_cons_succ] at h1
      cases i' with
      | zero =>
        simp only [List.getElem?_cons_zero, Option.some.injEq] at h2
        subst h2
        exact absurd rfl (n3 g m2 g (List.mem_flatMap.2 ⟨x, List.mem_of_getElem? h1, m1⟩))
      | succ i' =>
        simp only [List.getElem?_cons_succ] at h2
        rw [ih n2 i i' h1 h2]
theorem nx_nd {X : List AG} {gs : List Nat} (h : OkG X gs) (hg : gs.Nodup) (k k' : Nat) (p p' : Nat × Nat × List (List RV)) (h1 : (NX X)[k]? = some (some p)) (h2 : (NX X)[k']? = some (some p')) (e : p.1 = p'.1) : k = k' := by
  have hn := h.2 hg
  obtain ⟨i, x, hx, hk⟩ := nx_get h1
  obtain ⟨i', x', hx', hk'⟩ := nx_get h2
  have m1 : p.1 ∈ x.gs := by
    rcases hk with ⟨_, q1, rfl⟩ | ⟨_, q1, rfl⟩
    · exact AG.gs_mem.1 q1
    · exact AG.gs_mem.2 q1
  have m2 : p.1 ∈ x'.gs := by
    rw [e]
    rcases hk' with ⟨_, q1, rfl⟩ | ⟨_, q1, rfl⟩
    · exact AG.gs_mem.1 q1
    · exact AG.gs_mem.2 q1
  have hi := flat_idx m1 m2 X hn i i' hx hx'
  subst hi
  rw [hx] at hx'
  cases hx'
  have hxn : x.gs.Nodup := flat_nd1 X hn (List.mem_of_getElem? hx)
  have hab : x.a.a.sent ≠ [] → x.a.b.sent ≠ [] → x.ga ≠ x.gb := fun q1 q2 q3 => by
    unfold AG.gs gl at hxn
    cases ha : x.a.a.sent with
    | nil => exact q1 ha
    | cons => cases hb : x.a.b.sent with
      | nil => exact q2 hb
      | cons =>
        rw [ha, hb] at hxn
        simp only [List.map_cons, List.isEmpty_cons, Bool.false_eq_true, if_false, List.cons_append, List.nil_append, List.nodup_cons, List.mem_singleton] at hxn
        exact hxn.1 q3.symm
  rcases hk with ⟨rfl, q1, rfl⟩ | ⟨rfl, q1, rfl⟩ <;> rcases hk' with ⟨rfl, r1, rfl⟩ | ⟨rfl, r1, rfl⟩
  · rfl
  · exact absurd e (hab q1 r1)
  · exact absurd e.symm (hab r1 q1)
  · rfl
def cellD (id : Nat) (l : List Data) : AV := if l.isEmpty then .r (.ro none []) else .sl id 0 l.length
def cellsN (id : Nat) (a : Assoc) : List AV := [.i a.fr, .i a.to, .i a.state, .bo a.byB, .i a.a.tag, .i a.a.streams, .i a.a.first, cellD id a.a.sent, .i a.a.acked, .i a.b.tag, .i a.b.streams, .i a.b.first, cellD (id + ne a.a.sent.length) a.b.sent, .i a.b.acked]
def NestA (base : Nat) (L : List Assoc) (cs : List AV) : Prop := ∀ (i j : Nat) a c, L[i]? = some a → (cellsN (base + offS (L.map sz2) i) a)[j]? = some c → cs[i * 14 + j]? = some c
theorem nestA_of {base : Nat} {X : List AG} {cs : List AV} (h : ThawO base 14 (X.map AG.row) (NX X) cs) : NestA base (X.map AG.a) cs := fun i j a c ha hc => by
  rw [List.getElem?_map] at ha
  cases hi : X[i]? with
  | none => rw [hi] at ha; cases ha
  | some x =>
    rw [hi] at ha
    cases ha
    have row : ∀ j : Nat, ((X.map AG.row)[i]?).bind (·[j]?) = x.row[j]? := fun j => by rw [List.getElem?_map, hi]; rfl
    obtain ⟨n1, n2⟩ := nx_at hi
    have hsz : (X.map AG.a).map sz2 = szX X := by rw [List.map_map]; rfl
    rw [hsz] at hc
    have pl : ∀ y, x.row[j]? = some y → closR y = true ∨ y = .ro none [] → cs[i * 14 + j]? = some (.r y) := fun y hy hcl => h.cell i j y (by rw [row]; exact hy) hcl
    unfold cellsN at hc
    match j, hc, pl with
    | 0, hc, pl => cases hc; exact pl _ rfl (.inl rfl)
    | 1, hc, pl => cases hc; exact pl _ rfl (.inl rfl)
    | 2, hc, pl => cases hc; exact pl _ rfl (.inl rfl)
    | 3, hc, pl => cases hc; exact pl _ rfl (.inl rfl)
    | 4, hc, pl => cases hc; exact pl _ rfl (.inl rfl)
    | 5, hc, pl => cases hc; exact pl _ rfl (.inl rfl)
    | 6, hc, pl => cases hc; exact pl _ rfl (.inl rfl)
    | 7, hc, pl =>
      cases hc
      by_cases hs : x.a.a.sent = []
      · have e1 : cellD (base + offS (szX X) i) x.a.a.sent = .r (.ro none []) := by rw [hs]; rfl
        have e2 : x.ca = .ro none [] := by unfold AG.ca; rw [hs]; rfl
        rw [e1, pl _ rfl (.inr e2), e2]
      · have e1 : cellD (base + offS (szX X) i) x.a.a.sent = .sl (base + offS (szX X) i) 0 (x.a.a.sent.map Data.row).length := by
          unfold cellD
          cases hq : x.a.a.sent with
          | nil => exact absurd hq hs
          | cons => simp
        have e2 : x.ca = .ro (some x.ga) (x.a.a.sent.map Data.row) := by
          unfold AG.ca gc
          cases hq : x.a.a.sent with
          | nil => exact absurd hq hs
          | cons => rfl
        rw [e1]
        exact h.nest i 7 (offS (szX X) i) _ (n1 hs) (by rw [row, ← e2]; rfl)
    | 8, hc, pl => cases hc; exact pl _ rfl (.inl rfl)
    | 9, hc, pl => cases hc; exact pl _ rfl (.inl rfl)
    | 10, hc, pl => cases hc; exact pl _ rfl (.inl rfl)
    | 11, hc, pl => cases hc; exact pl _ rfl (.inl rfl)
    | 12, hc, pl =>
      cases hc
      by_cases hs : x.a.b.sent = []
      · have e1 : cellD (base + offS (szX X) i + ne x.a.a.sent.length) x.a.b.sent = .r (.ro none []) := by rw [hs]; rfl
        have e2 : x.cb = .ro none [] := by unfold AG.cb; rw [hs]; rfl
        rw [e1, pl _ rfl (.inr e2), e2]
      · have e1 : cellD (base + offS (szX X) i + ne x.a.a.sent.length) x.a.b.sent = .sl (base + (offS (szX X) i + ne x.a.a.sent.length)) 0 (x.a.b.sent.map Data.row).length := by
          unfold cellD
          cases hq : x.a.b.sent with
          | nil => exact absurd hq hs
          | cons => simp; omega
        have e2 : x.cb = .ro (some x.gb) (x.a.b.sent.map Data.row) := by
          unfold AG.cb gc
          cases hq : x.a.b.sent with
          | nil => exact absurd hq hs
          | cons => rfl
        rw [e1]
        exact h.nest i 12 (offS (szX X) i + ne x.a.a.sent.length) _ (n2 hs) (by rw [row, ← e2]; rfl)
    | 13, hc, pl => cases hc; exact pl _ rfl (.inl rfl)
    | j + 14, hc, _ => cases hc
end Go.Cap
namespace Go.Cap
attribute [local irreducible] Call Run Spec
def DL (L : List Assoc) : List (Nat × Nat × List (List RV)) := L.flatMap fun a => dn 0 a.a.sent ++ dn 0 a.b.sent
def NA (L : List Assoc) : NL := (DL L).map some
def nestA (base : Nat) (L : List Assoc) : List (Nat × Blk) := nestO base (NA L)
def tot (L : List Assoc) : Nat := offS (L.map sz2) L.length
theorem nestO_append : ∀ (A B : NL) (base : Nat), nestO base (A ++ B) = nestO base A ++ nestO (base + A.length) B
  | [], B, base => rfl
  | none :: A, B, base => by
    simp only [List.cons_append, nestO, nestO_append A B (base + 1), List.length_cons]
    rw [show base + 1 + A.length = base + (A.length + 1) by omega]
  | some p :: A, B, base => by
    simp only [List.cons_append, nestO, nestO_append A B (base + 1), List.length_cons]
    rw [show base + 1 + A.length = base + (A.length + 1) by omega]
theorem nestO_dn (base g g' : Nat) (l : List Data) : nestO base ((dn g l).map some) = nestO base ((dn g' l).map some) := by
  by_cases h : l = []
  · rw [(dn_nil (g := g) h).1, (dn_nil (g := g') h).1]
  · rw [(dn_cons (g := g) h).1, (dn_cons (g := g') h).1]; rfl
theorem nestO_NX : ∀ (X : List AG) (base : Nat), nestO base (NX X) = nestA base (X.map AG.a)
  | [], base => rfl
  | x :: X, base => by
    unfold nestA NX NA DX DL
    rw [List.map_cons, List.flatMap_cons, List.flatMap_cons]
    simp only [List.map_append, nestO_append, List.length_map, List.length_append, dn_len]
    rw [nestO_dn base x.ga 0, nestO_dn _ x.gb 0]
    have ih := nestO_NX X (base + (ne x.a.a.sent.length + ne x.a.b.sent.length))
    unfold nestA NX NA DX DL at ih
    rw [ih]
theorem szX_map (X : List AG) : (X.map AG.a).map sz2 = szX X := by rw [List.map_map]; rfl
theorem NX_len (X : List AG) : (NX X).length = tot (X.map AG.a) := by
  unfold NX tot
  rw [List.length_map, DX_len, szX_map, List.length_map]
def FormsA (base n : Nat) (cs : List AV) : Prop := ∀ c ∈ cs, (∃ x, (closR x = true ∨ x = .ro none []) ∧ c = .r x) ∨ ∃ k m, k < n ∧ c = .sl (base + k) 0 m
def shiftA (n0 : Nat) : AV → AV
  | .sl q st m => .sl (q - n0 + 2) st m
  | x => x
theorem FormsA.shift {n0 n : Nat} {cs : List AV} (h : FormsA n0 n cs) : FormsA 2 n (cs.map (shiftA n0)) := fun c hc => by
  obtain ⟨d, hd, rfl⟩ := List.mem_map.1 hc
  rcases h d hd with ⟨x, hx, rfl⟩ | ⟨k, m, hk, rfl⟩
  · exact .inl ⟨x, hx, rfl⟩
  · refine .inr ⟨k, m, hk, ?_⟩
    show AV.sl (n0 + k - n0 + 2) 0 m = _
    rw [show n0 + k - n0 + 2 = 2 + k by omega]
theorem cellD_shift {n0 id : Nat} (h : n0 ≤ id) (l : List Data) : shiftA n0 (cellD id l) = cellD (id - n0 + 2) l := by
  unfold cellD
  split <;> rfl
theorem NestA.shift {n0 : Nat} {L : List Assoc} {cs : List AV} (h : NestA n0 L cs) : NestA 2 L (cs.map (shiftA n0)) := fun i j a c ha hc => by
  have key : (cellsN (2 + offS (L.map sz2) i) a)[j]? = ((cellsN (n0 + offS (L.map sz2) i) a)[j]?).map (shiftA n0) := by
    generalize offS (L.map sz2) i = o
    rw [← List.getElem?_map]
    unfold cellsN
    simp only [List.map_cons, List.map_nil, cellD_shift (show n0 ≤ n0 + o by omega), cellD_shift (show n0 ≤ n0 + o + ne a.a.sent.length by omega)]
    rw [show n0 + o - n0 + 2 = 2 + o by omega, show n0 + o + ne a.a.sent.length - n0 + 2 = 2 + o + ne a.a.sent.length by omega]
    rfl
  rw [key] at hc
  cases hd : (cellsN (n0 + offS (L.map sz2) i) a)[j]? with
  | none => rw [hd] at hc; cases hc
  | some d =>
    rw [hd] at hc
    rw [List.getElem?_map, h i j a d ha hd]
    exact hc
theorem hget_nestA (base : Nat) (L : List Assoc) (b : Nat) : hget (nestA base L) b = if base ≤ b then (((NA L)[b - base]?).getD none).map (fun p => .row p.2.1 p.2.2) else none := hget_nestO _ _ _
structure OwnM (x : Mon) (r : AV) (hp : List (Nat × Blk)) (nx : Nat) (gs : List Nat) : Prop where
  h : (x = noMon ∧ r = .agg [.i 0, .r .nil, .r .nil] ∧ hp = [] ∧ nx = 0 ∧ gs = []) ∨
    (x.list = [] ∧ r = .agg [.i x.records, .r .nil, .sl 0 0 x.found.length] ∧ hp = [(0, .row 2 (x.found.map Fnd.row))] ∧ nx = 1 ∧ gs = []) ∨
    (x.list = [] ∧ r = .agg [.i x.records, .sl 1 0 0, .sl 0 0 x.found.length] ∧ hp = [(0, .row 2 (x.found.map Fnd.row)), (1, .row 14 [])] ∧ nx = 2 ∧ gs = []) ∨
    (∃ cs, NestA 2 x.list cs ∧ FormsA 2 (tot x.list) cs ∧ r = .agg [.i x.records, .sl 1 0 x.list.length, .sl 0 0 x.found.length] ∧ hp = (0, .row 2 (x.found.map Fnd.row)) :: (1, .var cs) :: nestA 2 x.list ∧ nx = 2 + tot x.list ∧ gs = [])
theorem s_ownM {P : Program} {f : Nat} {args : List AV} {x : Mon} (hs : Spec P f 0 [] args (RunQ x)) : Spec P f 0 [] args (OwnM x) := by
  have hfc : ∀ r ∈ x.found.map Fnd.row, ∀ y ∈ r, closR y = true := fun r hr y hy => by
    obtain ⟨d, _, rfl⟩ := List.mem_map.1 hr
    simp only [Fnd.row, List.mem_cons, List.not_mem_nil, or_false] at hy
    rcases hy with rfl | rfl <;> rfl
  refine Spec.leX (Spec.thawO (sz := 14) (R0 := fun r C => (x = noMon ∧ r = .agg [.i 0, .r .nil, .r .nil]) ∨ (x.list = [] ∧ ∃ b, r = .agg [.i x.records, .r .nil, .sl b 0 x.found.length] ∧ hget C b = some (.row 2 (x.found.map Fnd.row))) ∨ (x.list = [] ∧ ∃ b b1, b ≠ b1 ∧ r = .agg [.i x.records, .sl b1 0 0, .sl b 0 x.found.length] ∧ hget C b = some (.row 2 (x.found.map Fnd.row)) ∧ hget C b1 = some (.row 14 [])))
    (R := fun r b L N C => ∃ X b0, b0 ≠ b ∧ X.map AG.a = x.list ∧ r = .agg [.i x.records, .sl b 0 X.length, .sl b0 0 x.found.length] ∧ L = X.map AG.row ∧ N = NX X ∧ C = [(b0, .row 2 (x.found.map Fnd.row))]) hs ?_) ?_
  · rintro r hp nx gs ⟨h⟩
    rcases h with h | h | ⟨b, b1, X, hne, ⟨hX, hO⟩, rfl, h0, h1⟩
    · exact .inl ⟨[], .inl h, fun q y hy => by cases hy⟩
    · exact .inl ⟨hp, .inr (.inl h), fun q y hy => hy⟩
    · by_cases hXe : X = []
      · subst hXe
        exact .inl ⟨hp, .inr (.inr ⟨hX.symm, b, b1, hne, rfl, h0, h1⟩), fun q y hy => hy⟩
      · refine .inr ⟨b1, X.map AG.row, NX X, [(b, .row 2 (x.found.map Fnd.row))], ⟨rfl, h1, fun e => hXe (List.map_eq_nil_iff.1 e), fun q y hy => ?_, fun k p hk => ?_, fun hn => nx_nd hO hn, fun i j y hy => ?_⟩, X, b, hne, hX, rfl, rfl, rfl, rfl⟩
        · simp only [hget] at hy
          split at hy
          · rename_i e; subst e; cases hy
            exact ⟨hne, h0, hfc⟩
          · cases hy
        · obtain ⟨i, y, hy, hk'⟩ := nx_get hk
          have hg := hO.1
          have hm : ∀ g, g ∈ y.gs → g ∈ gs := fun g hg' => hg g (List.mem_flatMap.2 ⟨y, List.mem_of_getElem? hy, hg'⟩)
          have row : ∀ j : Nat, ((X.map AG.row)[i]?).bind (·[j]?) = y.row[j]? := fun j => by rw [List.getElem?_map, hy]; rfl
          have gce : ∀ g (l : List Data), l ≠ [] → gc g (l.map Data.row) = .ro (some g) (l.map Data.row) := fun g l hl => by
            unfold gc
            cases l with
            | nil => exact absurd rfl hl
            | cons => rfl
          have rl : ∀ (l : List Data), ∀ r ∈ l.map Data.row, r.length = 7 := fun l r hr => by obtain ⟨d, _, rfl⟩ := List.mem_map.1 hr; rfl
          rcases hk' with ⟨_, q1, rfl⟩ | ⟨_, q1, rfl⟩
          · exact ⟨hm _ (AG.gs_mem.1 q1), Nat.zero_lt_succ 6, dataClosed _, fun e => q1 (List.map_eq_nil_iff.1 e), rl _, i, 7, by rw [row, ← gce _ _ q1]; rfl⟩
          · exact ⟨hm _ (AG.gs_mem.2 q1), Nat.zero_lt_succ 6, dataClosed _, fun e => q1 (List.map_eq_nil_iff.1 e), rl _, i, 12, by rw [row, ← gce _ _ q1]; rfl⟩
        · rw [List.getElem?_map] at hy
          cases hi : X[i]? with
          | none => rw [hi] at hy; cases hy
          | some z =>
            rw [hi] at hy
            have hy' : z.row[j]? = some y := hy
            have hm := List.mem_of_getElem? hy'
            obtain ⟨n1, n2⟩ := nx_at hi
            have gcl : ∀ g (l : List Data), (l = [] ∧ gc g (l.map Data.row) = .ro none []) ∨ (l ≠ [] ∧ gc g (l.map Data.row) = .ro (some g) (l.map Data.row)) := fun g l => by
              cases l with
              | nil => exact .inl ⟨rfl, rfl⟩
              | cons d l => exact .inr ⟨by simp, rfl⟩
            simp only [AG.row, Assoc.cellsX, List.mem_cons, List.not_mem_nil, or_false] at hm
            rcases hm with rfl | rfl | rfl | rfl | rfl | rfl | rfl | rfl | rfl | rfl | rfl | rfl | rfl | rfl
            case inr.inr.inr.inr.inr.inr.inr.inl =>
              rcases gcl z.ga z.a.a.sent with ⟨q1, q2⟩ | ⟨q1, q2⟩
              · exact .inr (.inl q2)
              · exact .inr (.inr ⟨_, _, n1 q1, q2⟩)
            case inr.inr.inr.inr.inr.inr.inr.inr.inr.inr.inr.inr.inl =>
              rcases gcl z.gb z.a.b.sent with ⟨q1, q2⟩ | ⟨q1, q2⟩
              · exact .inr (.inl q2)
              · exact .inr (.inr ⟨_, _, n2 q1, q2⟩)
            all_goals exact .inl rfl
  · rintro r hp nx gs ⟨rfl, h⟩ c hc M ι ac w hsr
    rcases h with (⟨e, rfl⟩ | ⟨e, b, rfl, h0⟩ | ⟨e, b, b1, hne, rfl, h0, h1⟩) | ⟨b, L, N, C, cs, n0, ⟨X, b0, hb0, hX, rfl, rfl, rfl, rfl⟩, hT, rfl, rfl, hbn, hCn⟩
    · obtain ⟨M', ι', h'⟩ := (le_ev (c := c) (sl := [(0, AV.agg [.i 0, .r .nil, .r .nil])]) (sl' := [(0, AV.agg [.i 0, .r .nil, .r .nil])]) (hp := hp) (hp' := []) (nx := nx) (nx' := 0) (gs := []) [] (by simp only [hc,go_sem,↓reduceIte])) M ι ac w hsr
      exact ⟨_, _, _, _, M', ι', ⟨.inl ⟨e, rfl, rfl, rfl, rfl⟩⟩, h'⟩
    · obtain ⟨M', ι', h'⟩ := (le_ev (c := c) (sl := [(0, AV.agg [.i x.records, .r .nil, .sl b 0 x.found.length])]) (sl' := [(0, AV.agg [.i x.records, .r .nil, .sl 0 0 x.found.length])]) (hp := hp) (hp' := [(0, .row 2 (x.found.map Fnd.row))]) (nx := nx) (nx' := 1) (gs := []) [(0, b)] (by simp only [hc, go_sem, ↓reduceIte, h0])) M ι ac w hsr
      exact ⟨_, _, _, _, M', ι', ⟨.inr (.inl ⟨e, rfl, rfl, rfl, rfl⟩)⟩, h'⟩
    · obtain ⟨M', ι', h'⟩ := (le_ev (c := c) (sl := [(0, AV.agg [.i x.records, .sl b1 0 0, .sl b 0 x.found.length])]) (sl' := [(0, AV.agg [.i x.records, .sl 1 0 0, .sl 0 0 x.found.length])]) (hp := hp) (hp' := [(0, .row 2 (x.found.map Fnd.row)), (1, .row 14 [])]) (nx := nx) (nx' := 2) (gs := []) [(0, b), (1, b1)] (by simp only [hc, go_sem, ↓reduceIte, h0, h1]; omega)) M ι ac w hsr
      exact ⟨_, _, _, _, M', ι', ⟨.inr (.inr (.inl ⟨e, rfl, rfl, rfl, rfl⟩))⟩, h'⟩
    · have hXl : X.length = x.list.length := by rw [← hX, List.length_map]
      have hNA := nestA_of hT
      rw [hX] at hNA
      have hF : FormsA n0 (tot x.list) cs := fun c0 hc0 => by
        rcases hT.form c0 hc0 with h | ⟨k, p, hk, rfl⟩
        · exact .inl h
        · have := (List.getElem?_eq_some_iff.1 hk).1
          rw [NX_len, hX] at this
          exact .inr ⟨k, _, by omega, rfl⟩
      have hb0n : b0 < n0 := hCn b0 (by simp [hget])
      rw [nestO_NX, hX] at hsr
      let ff : Nat → Nat := fun q => if q = 0 then b0 else if q = 1 then b else n0 + (q - 2)
      have f0 : ff 0 = b0 := rfl
      have f1 : ff 1 = b := rfl
      have f2 : ∀ q, 2 ≤ q → ff q = n0 + (q - 2) := fun q hq => by
        show (if q = 0 then b0 else if q = 1 then b else n0 + (q - 2)) = _
        rw [if_neg (by omega), if_neg (by omega)]
      have hinj : ∀ q q', ff q = ff q' → q = q' := fun q q' e => by
        rcases Nat.lt_or_ge q 2 with h | h <;> rcases Nat.lt_or_ge q' 2 with h' | h'
        · have : (q = 0 ∨ q = 1) ∧ (q' = 0 ∨ q' = 1) := by omega
          rcases this with ⟨rfl | rfl, rfl | rfl⟩
          · rfl
          · exact absurd e hb0
          · exact absurd e.symm hb0
          · rfl
        · rw [f2 q' h'] at e
          have : q = 0 ∨ q = 1 := by omega
          rcases this with rfl | rfl
          · rw [f0] at e; omega
          · rw [f1] at e; omega
        · rw [f2 q h] at e
          have : q' = 0 ∨ q' = 1 := by omega
          rcases this with rfl | rfl
          · rw [f0] at e; omega
          · rw [f1] at e; omega
        · rw [f2 q h, f2 q' h'] at e; omega
      have hren : renA.renL ff (cs.map (shiftA n0)) = cs := by
        rw [renL_eq, List.map_map]
        conv => rhs; rw [← List.map_id cs]
        refine List.map_congr_left fun c0 hc0 => ?_
        rcases hF c0 hc0 with ⟨y, hy, rfl⟩ | ⟨k, m, hk, rfl⟩
        · rfl
        · show AV.sl (ff (n0 + k - n0 + 2)) 0 m = AV.sl (n0 + k) 0 m
          rw [f2 _ (by omega), show n0 + (n0 + k - n0 + 2 - 2) = n0 + k by omega]
      have := sr_ren (t := ⟨[(0, .agg [.i x.records, .sl 1 0 x.list.length, .sl 0 0 x.found.length])], (0, .row 2 (x.found.map Fnd.row)) :: (1, .var (cs.map (shiftA n0))) :: nestA 2 x.list, 2 + tot x.list, []⟩) hc ff (fun q hq => ?_) (fun q q' _ _ e => hinj q q' e) (fun i => ?_) (fun q y hy => ?_) rfl hsr
      · exact ⟨_, _, _, _, M, _, ⟨.inr (.inr (.inr ⟨_, hNA.shift, hF.shift, rfl, rfl, rfl, rfl⟩))⟩, this⟩
      · have hq' : 2 + tot x.list ≤ q := hq
        show n0 + (NX X).length ≤ ff q
        rw [f2 q (by omega), NX_len, hX]; omega
      · by_cases hi : (0 : Nat) = i
        · subst hi
          right
          show AV.agg [.i x.records, .sl b 0 X.length, .sl b0 0 x.found.length] = _
          rw [hXl]
          rfl
        · left
          show get [(0, _)] i = .junk
          simp only [get]
          rw [if_neg hi]
      · show hget ((b, .var cs) :: (nestA n0 x.list ++ [(b0, .row 2 (x.found.map Fnd.row))])) (ff q) = _
        simp only [hget] at hy
        split at hy
        · rename_i e; subst e; cases hy
          rw [f0, hget_cons, if_neg (fun e => hb0 e.symm), hget_append, hget_nestA, if_neg (by omega)]
          simp only [hget, if_true]
          rfl
        · split at hy
          · rename_i e; subst e; cases hy
            rw [f1, hget_cons, if_pos rfl]
            show some (Blk.var cs) = some (Blk.var (renA.renL ff _))
            rw [hren]
          · rename_i e0 e1
            have hq2 : 2 ≤ q := by omega
            rw [hget_nestA, if_pos hq2] at hy
            rw [f2 q hq2, hget_cons, if_neg (by omega), hget_append, hget_nestA, if_pos (by omega), Nat.add_sub_cancel_left]
            cases hk : ((NA x.list)[q - 2]?).getD none with
            | none => rw [hk] at hy; cases hy
            | some p =>
              rw [hk] at hy
              have hy' : some (Blk.row p.2.1 p.2.2) = some y := hy
              cases hy'
              rfl
end Go.Cap
namespace Go.Cap
attribute [local irreducible] Call Run Spec Le
theorem s_markDataS_ro (n : Int) : Spec Tryz.prog 53 0 [] [.r (.ro none []), .i n] (fun r _ _ _ => r = .i n) := by
  refine mk53 rfl fun c hP hm => ?_
  unfold pc53
  simp only [go_sem, ↓reduceIte]
  refine lp_wpc (α := Unit) (fun _ => ⟨[(0, .r (.ro none [])), (1, .i n), (5, .i 0)], [], 0, []⟩) (fun _ => True) (fun _ => 0) () trivial (Le.refl _) ?_
  intro i hi
  unfold pc53l0
  simp only [go_sem, ↓reduceIte]
theorem c_markData {c : Cx} (hP : c.P = Tryz.prog) {s : St} {K : AV → St → Prop} (id : Nat) (l : List Data) (n : Int) (hn : 0 ≤ n ∧ n ≤ 100000000) (hl : l.length ≤ 4000000) (hb : l ≠ [] → hget s.hp id = some (.row 7 (l.map Data.row)))
    (hK : ∀ hp', (∀ q, hget hp' q = if q = id ∧ l ≠ [] then some (.row 7 ((marks markData 7 l.length n).map Data.row)) else hget s.hp q) → K (.i (n + 7 * l.length)) ⟨s.sl, hp', s.nx, s.gs⟩) : Call c 53 [cellD id l, .i n] s K := by
  cases l with
  | nil =>
    have := hK s.hp (fun q => by rw [if_neg (fun h => h.2 rfl)])
    refine call_pure (hP ▸ s_markDataS_ro n) rfl rfl ?_
    simpa using this
  | cons d l =>
    have hne : (d :: l) ≠ [] := by simp
    refine call_named id (hP ▸ s_markDataS (d :: l) n hn hl) (hb hne) rfl (by simp only [List.map_cons, List.map_nil, renA, idf_zero]; rfl) ?_ ?_
    · rintro r B ⟨rfl, rfl⟩; exact ⟨rfl, rfl⟩
    · rintro r B ⟨rfl, rfl⟩
      refine hK _ fun q => ?_
      rw [hget_cons, hget_hdel]
      by_cases h : id = q
      · subst h; rw [if_pos rfl, if_pos ⟨rfl, hne⟩]
      · rw [if_neg h, if_neg (fun e => h e.symm), if_neg (fun e => h e.1.symm)]
theorem ne_pos {l : List Data} (h : l ≠ []) : ne l.length = 1 := (dn_cons (g := 0) h).2
theorem offS_le : ∀ (l : List (Nat × Nat)) (i j : Nat), i ≤ j → offS l i ≤ offS l j
  | [], _, _, _ => Nat.le_refl _
  | s :: l, 0, _, _ => Nat.zero_le _
  | s :: l, i + 1, 0, h => by omega
  | s :: l, i + 1, j + 1, h => by
    have := offS_le l i j (by omega)
    simp only [offS]; omega
theorem offS_succ : ∀ {l : List (Nat × Nat)} {i : Nat} (h : i < l.length), offS l (i + 1) = offS l i + (ne l[i].1 + ne l[i].2)
  | s :: l, 0, h => by
    have : offS l 0 = 0 := by cases l <;> rfl
    simp only [offS, this, List.getElem_cons_zero]; omega
  | s :: l, i + 1, h => by
    have := offS_succ (l := l) (i := i) (by simpa using h)
    simp only [offS, List.getElem_cons_succ] at this ⊢
    omega
def toG (L : List Assoc) : List AG := L.map fun a => ⟨a, 0, 0⟩
theorem DL_eq (L : List Assoc) : DL L = DX (toG L) := by unfold DL DX toG; rw [List.flatMap_map]
theorem szX_toG (L : List Assoc) : szX (toG L) = L.map sz2 := by unfold szX toG; rw [List.map_map]; rfl
theorem nestA_at {base : Nat} {L : List Assoc} {i : Nat} {a : Assoc} (h : L[i]? = some a) : (a.a.sent ≠ [] → hget (nestA base L) (base + offS (L.map sz2) i) = some (.row 7 (a.a.sent.map Data.row))) ∧ (a.b.sent ≠ [] → hget (nestA base L) (base + offS (L.map sz2) i + ne a.a.sent.length) = some (.row 7 (a.b.sent.map Data.row))) := by
  have hx : (toG L)[i]? = some ⟨a, 0, 0⟩ := by unfold toG; rw [List.getElem?_map, h]; rfl
  obtain ⟨h1, h2⟩ := dx_at hx
  rw [szX_toG, ← DL_eq] at h1 h2
  refine ⟨fun ha => ?_, fun hb => ?_⟩
  · rw [hget_nestA, if_pos (by omega), Nat.add_sub_cancel_left]
    unfold NA
    rw [List.getElem?_map, h1 ha]; rfl
  · rw [hget_nestA, if_pos (by omega), show base + offS (L.map sz2) i + ne a.a.sent.length - base = offS (L.map sz2) i + ne a.a.sent.length by omega]
    unfold NA
    rw [List.getElem?_map, h2 hb]; rfl
theorem nestA_get {base : Nat} {L : List Assoc} {q : Nat} {x : Blk} (h : hget (nestA base L) q = some x) : ∃ i a, L[i]? = some a ∧ ((a.a.sent ≠ [] ∧ q = base + offS (L.map sz2) i ∧ x = .row 7 (a.a.sent.map Data.row)) ∨ (a.b.sent ≠ [] ∧ q = base + offS (L.map sz2) i + ne a.a.sent.length ∧ x = .row 7 (a.b.sent.map Data.row))) := by
  rw [hget_nestA] at h
  split at h
  · rename_i hq
    unfold NA at h
    rw [List.getElem?_map] at h
    cases hk : (DL L)[q - base]? with
    | none => rw [hk] at h; cases h
    | some p =>
      rw [hk] at h
      have h' : some (Blk.row p.2.1 p.2.2) = some x := h
      cases h'
      rw [DL_eq] at hk
      obtain ⟨i, y, h1, h2⟩ := dx_get hk
      unfold toG at h1
      rw [List.getElem?_map] at h1
      cases hi : L[i]? with
      | none => rw [hi] at h1; cases h1
      | some a =>
        rw [hi] at h1
        cases h1
        rw [szX_toG] at h2
        refine ⟨i, a, hi, ?_⟩
        rcases h2 with ⟨q1, rfl, q3⟩ | ⟨q1, rfl, q3⟩
        · exact .inl ⟨q1, by omega, rfl⟩
        · exact .inr ⟨q1, by simp only at q3 ⊢; omega, rfl⟩
  · cases h
theorem sz2_mark (s : Nat × Nat) (n : Int) : sz2 (markAssocG s n) = s := by unfold sz2 markAssocG; simp only [marks_len]
theorem vw_nestA {hp : List (Nat × Blk)} {b base : Nat} {L : List Assoc} {cs : List AV} (hb : hget hp b = some (.var cs)) (hn : NestA base L cs) (hr : ∀ q x, hget (nestA base L) q = some x → hget hp q = some x) : Vw hp (.sl b 0 L.length) (.r (.ro none (L.map Assoc.row))) := by
  have hD : ∀ (id : Nat) (l : List Data), (l ≠ [] → hget hp id = some (.row 7 (l.map Data.row))) → Vw hp (cellD id l) (.r (.ro none (l.map Data.row))) := fun id l h => by
    cases l with
    | nil => exact .r _
    | cons d l => exact Vw.full (h (by simp)) (by simp)
  have hrow : ∀ (i j : Nat) x, ((L.map Assoc.row)[i]?).bind (·[j]?) = some x → ∃ a, L[i]? = some a ∧ a.row[j]? = some x := fun i j x hx => by
    rw [List.getElem?_map] at hx
    cases hi : L[i]? with
    | none => rw [hi] at hx; cases hx
    | some a => rw [hi] at hx; exact ⟨a, rfl, hx⟩
  have key : ∀ (i j : Nat) x, ((L.map Assoc.row)[i]?).bind (·[j]?) = some x → ∃ c, cs[i * 14 + j]? = some c ∧ Vw hp c (.r x) := fun i j x hx => by
    obtain ⟨a, ha, hx⟩ := hrow i j x hx
    obtain ⟨r1, r2⟩ := nestA_at (base := base) ha
    have hc := fun c => hn i j a c ha
    unfold Assoc.row Assoc.cellsX at hx
    unfold cellsN at hc
    match j, hx, hc with
    | 0, hx, hc => cases hx; exact ⟨_, hc _ rfl, .r _⟩
    | 1, hx, hc => cases hx; exact ⟨_, hc _ rfl, .r _⟩
    | 2, hx, hc => cases hx; exact ⟨_, hc _ rfl, .r _⟩
    | 3, hx, hc => cases hx; exact ⟨_, hc _ rfl, .r _⟩
    | 4, hx, hc => cases hx; exact ⟨_, hc _ rfl, .r _⟩
    | 5, hx, hc => cases hx; exact ⟨_, hc _ rfl, .r _⟩
    | 6, hx, hc => cases hx; exact ⟨_, hc _ rfl, .r _⟩
    | 7, hx, hc => cases hx; exact ⟨_, hc _ rfl, hD _ _ fun h => hr _ _ (r1 h)⟩
    | 8, hx, hc => cases hx; exact ⟨_, hc _ rfl, .r _⟩
    | 9, hx, hc => cases hx; exact ⟨_, hc _ rfl, .r _⟩
    | 10, hx, hc => cases hx; exact ⟨_, hc _ rfl, .r _⟩
    | 11, hx, hc => cases hx; exact ⟨_, hc _ rfl, .r _⟩
    | 12, hx, hc => cases hx; exact ⟨_, hc _ rfl, hD _ _ fun h => hr _ _ (r2 h)⟩
    | 13, hx, hc => cases hx; exact ⟨_, hc _ rfl, .r _⟩
    | j + 14, hx, _ => cases hx
  have := Vw.nest (hp := hp) b 14 cs (L.map Assoc.row) (fun i j => (cs[i * 14 + j]?).getD .junk) hb (fun r hr => by obtain ⟨p, _, rfl⟩ := List.mem_map.1 hr; rfl) (fun i j x hx => by
    obtain ⟨c, h1, _⟩ := key i j x hx
    simp only [h1, Option.getD_some]) (fun i j x hx => by
    obtain ⟨c, h1, h2⟩ := key i j x hx
    simp only [h1, Option.getD_some]; exact h2)
  rw [List.length_map] at this
  exact this
def SzOk (sz : List (Nat × Nat)) : Prop := sz.length ≤ 100 ∧ ∀ s ∈ sz, s.1 ≤ 1000 ∧ s.2 ≤ 1000
theorem offs_le : ∀ {l : List (Nat × Nat)}, (∀ s ∈ l, s.1 ≤ 1000 ∧ s.2 ≤ 1000) → offs l ≤ 14012 * l.length
  | [], _ => by simp [offs]
  | s :: l, h => by
    have := offs_le (l := l) fun t ht => h t (List.mem_cons_of_mem _ ht)
    have := h s (List.mem_cons_self ..)
    simp only [offs, wd, List.length_cons]; omega
theorem SzOk.at {sz : List (Nat × Nat)} (h : SzOk sz) (i : Nat) : 0 ≤ offs (sz.take i) ∧ offs (sz.take i) ≤ 1401200 := by
  have h1 := offs_le (l := sz.take i) fun s hs => h.2 s (List.mem_of_mem_take hs)
  have h2 := h.1
  have h3 := offs_nn (sz.take i)
  rw [List.length_take] at h1
  omega
theorem offs_take {sz : List (Nat × Nat)} {i : Nat} (h : i < sz.length) : offs (sz.take (i + 1)) = offs (sz.take i) + wd sz[i] := by rw [take_get h, offs_snoc]
theorem offs_mono (sz : List (Nat × Nat)) (i : Nat) : offs (sz.take i) ≤ offs sz := by
  have h := offs_app (sz.take i) (sz.drop i)
  rw [List.take_append_drop] at h
  have := offs_nn (sz.drop i)
  omega
theorem offs_el : ∀ {sz : List (Nat × Nat)} {s : Nat × Nat}, s ∈ sz → wd s ≤ offs sz
  | t :: l, s, h => by
    have h1 := offs_nn l
    simp only [offs]
    rcases List.mem_cons.1 h with rfl | h
    · omega
    · have := offs_el h
      have : 0 ≤ wd t := by unfold wd; omega
      omega
theorem offs_len : ∀ (sz : List (Nat × Nat)), 12 * (sz.length : Int) ≤ offs sz
  | [] => by simp [offs]
  | s :: l => by
    have := offs_len l
    simp only [offs, wd, List.length_cons]; omega
def SzB (sz : List (Nat × Nat)) : Prop := offs sz ≤ 20000000
theorem SzB.at {sz : List (Nat × Nat)} (h : SzB sz) (i : Nat) : 0 ≤ offs (sz.take i) ∧ offs (sz.take i) ≤ 20000000 := by
  have := offs_mono sz i
  have := offs_nn (sz.take i)
  unfold SzB at h
  omega
theorem SzB.len {sz : List (Nat × Nat)} (h : SzB sz) : sz.length ≤ 2000000 := by
  have := offs_len sz
  unfold SzB at h
  omega
theorem SzB.el {sz : List (Nat × Nat)} (h : SzB sz) {s : Nat × Nat} (hs : s ∈ sz) : s.1 ≤ 3000000 ∧ s.2 ≤ 3000000 := by
  have := offs_el hs
  unfold SzB at h
  unfold wd at this
  omega
theorem SzOk.b {sz : List (Nat × Nat)} (h : SzOk sz) : SzB sz := by
  have := h.at sz.length
  rw [List.take_length] at this
  unfold SzB
  omega
set_option maxHeartbeats 2000000 in
theorem s_heldAssocS (sz : List (Nat × Nat)) (n : Int) (hn : 0 ≤ n ∧ n ≤ 1000) (hs : SzOk sz) : Spec Tryz.prog 29 0 [] [.r (.ro none ((markAs sz n).map Assoc.row)), .i n] (fun r _ _ _ => r = .i (n + offs sz)) := by
  refine mk29 rfl fun c hP hm => ?_
  unfold pc29
  simp only [hm,go_sem,↓reduceIte]
  have hlen : (markAs sz n).length = sz.length := markAs_len ..
  have h100 := hs.1
  refine lp_wpc (α := Nat) (fun i => ⟨[(0, .r (.ro none ((markAs sz n).map Assoc.row))), (1, .i (n + offs (sz.take i))), (5, .i i)], [], 0, []⟩) (fun i => i ≤ sz.length) (fun i => sz.length - i) 0 (Nat.zero_le _) (le_eq (by simp [offs])) ?_
  intro i hi
  unfold pc29l0
  rcases Nat.lt_or_ge i sz.length with hik | hik
  · have hil : i < (markAs sz n).length := by omega
    have hw : IntKind.i64.wrap ((i : Int) + 1) = ((i + 1 : Nat) : Int) := by rw [wrap64 (by omega) (by omega)]; omega
    have hg0 := getD_map (f := Assoc.row) hil
    have hg : (markAs sz n)[i] = markAssocG sz[i] (n + offs (sz.take i)) := by
      have := markAs_get n hik
      rw [List.getElem?_eq_getElem hil] at this
      exact Option.some.inj this
    rw [hg] at hg0
    have hoff := offs_take hik
    have hb := hs.at i
    have hsb := hs.2 _ (List.getElem_mem hik)
    generalize sz[i] = s at hg0 hoff hsb
    have hnext : n + offs (sz.take (i + 1)) = n + offs (sz.take i) + wd s := by rw [hoff]; omega
    obtain ⟨k, hk⟩ : ∃ k, n + offs (sz.take i) = k := ⟨_, rfl⟩
    rw [hk] at hg0 hnext
    rw [hk]
    have hkb : 0 ≤ k ∧ k ≤ 1402200 := by omega
    have c1 := s_heldDataS s.1 (k + 7) (by omega) (by omega)
    have c2 := s_heldDataS s.2 (k + 11 + 7 * s.1) (by omega) (by omega)
    have w1 : IntKind.i64.wrap (k + 1) = k + 1 := wrap64 (by omega) (by omega)
    have w2 : IntKind.i64.wrap (k + 1 + 1) = k + 2 := by rw [wrap64 (by omega) (by omega)]; omega
    have w3 : IntKind.i64.wrap (k + 2 + 1) = k + 3 := by rw [wrap64 (by omega) (by omega)]; omega
    have w4 : IntKind.i64.wrap (k + 3 + 1) = k + 4 := by rw [wrap64 (by omega) (by omega)]; omega
    have w5 : IntKind.i64.wrap (k + 4 + 1) = k + 5 := by rw [wrap64 (by omega) (by omega)]; omega
    have w6 : IntKind.i64.wrap (k + 5 + 1) = k + 6 := by rw [wrap64 (by omega) (by omega)]; omega
    have w7 : IntKind.i64.wrap (k + 6 + 1) = k + 7 := by rw [wrap64 (by omega) (by omega)]; omega
    have w8 : IntKind.i64.wrap (k + 7 + 7 * s.1 + 1) = k + 8 + 7 * s.1 := by rw [wrap64 (by omega) (by omega)]; omega
    have w9 : IntKind.i64.wrap (k + 8 + 7 * s.1 + 1) = k + 9 + 7 * s.1 := by rw [wrap64 (by omega) (by omega)]; omega
    have w10 : IntKind.i64.wrap (k + 9 + 7 * s.1 + 1) = k + 10 + 7 * s.1 := by rw [wrap64 (by omega) (by omega)]; omega
    have w11 : IntKind.i64.wrap (k + 10 + 7 * s.1 + 1) = k + 11 + 7 * s.1 := by rw [wrap64 (by omega) (by omega)]; omega
    have w12 : IntKind.i64.wrap (k + 11 + 7 * s.1 + 7 * s.2 + 1) = k + wd s := by rw [wrap64 (by omega) (by omega)]; unfold wd; omega
    have w3d : IntKind.i64.wrap ((k + 3).tmod 3) = (k + 3).tmod 3 := by
      have := Int.tmod_lt_of_pos (k + 3) (b := 3) (by omega)
      have := Int.tmod_nonneg (a := k + 3) 3 (by omega)
      rw [wrap64 (by omega) (by omega)]
    simp only [Int.toNat_natCast, hg0, hlen, markAssocG, div3, Assoc.row, Assoc.cellsX, hw, w1, w2, w3, w4, w5, w6, w7, w8, w9, w10, w11, w12, w3d, hm,go_sem,↓reduceIte]
    repeat' first
      | refine And.intro ?_ ?_
      | intro _
      | (refine call_pure (hP ▸ c1) rfl rfl ?_; simp only [Int.toNat_natCast, hg0, hlen, markAssocG, div3, Assoc.row, Assoc.cellsX, hw, w1, w2, w3, w4, w5, w6, w7, w8, w9, w10, w11, w12, hm,go_sem,↓reduceIte])
      | (refine call_pure (hP ▸ c2) rfl rfl ?_; simp only [Int.toNat_natCast, hg0, hlen, markAssocG, div3, Assoc.row, Assoc.cellsX, hw, w1, w2, w3, w4, w5, w6, w7, w8, w9, w10, w11, w12, hm,go_sem,↓reduceIte])
    all_goals first
      | omega
      | (exfalso; omega)
      | (rename_i hx; exact absurd trivial hx)
      | (refine ⟨i + 1, hik, by omega, le_eq ?_⟩; rw [hnext]; first | done | rfl)
  · have : i = sz.length := by omega
    subst this
    rw [List.take_length]
    simp only [hlen, hm,go_sem,↓reduceIte]
    repeat' first | refine And.intro ?_ ?_ | intro _
    all_goals first
      | omega
      | rfl
theorem sent_len {l l' : List Data} (h : l.length = l'.length) : l ≠ [] ↔ l' ≠ [] := by
  rw [ne_eq, ne_eq, ← List.length_eq_zero_iff, ← List.length_eq_zero_iff, h]
theorem nestA_step {base i : Nat} {W : List Assoc} {a a' : Assoc} (hi : W[i]? = some a) (hsz : sz2 a' = sz2 a) (q : Nat) (x : Blk) (h : hget (nestA base (W.set i a')) q = some x) :
    (q = base + offS (W.map sz2) i ∧ a.a.sent ≠ [] ∧ x = .row 7 (a'.a.sent.map Data.row)) ∨ (q = base + offS (W.map sz2) i + ne a.a.sent.length ∧ a.b.sent ≠ [] ∧ x = .row 7 (a'.b.sent.map Data.row)) ∨
    (hget (nestA base W) q = some x ∧ ¬ (q = base + offS (W.map sz2) i ∧ a.a.sent ≠ []) ∧ ¬ (q = base + offS (W.map sz2) i + ne a.a.sent.length ∧ a.b.sent ≠ [])) := by
  obtain ⟨i', b', hb, hc⟩ := nestA_get h
  have hil := (List.getElem?_eq_some_iff.1 hi).1
  have hia : W[i] = a := by rw [List.getElem?_eq_getElem hil] at hi; exact Option.some.inj hi
  have hl1 : a'.a.sent.length = a.a.sent.length := congrArg Prod.fst hsz
  have hl2 : a'.b.sent.length = a.b.sent.length := congrArg Prod.snd hsz
  have hmap : (W.set i a').map sz2 = W.map sz2 := by
    rw [List.map_set, hsz, ← hia]
    have : sz2 W[i] = (W.map sz2)[i]'(by simpa using hil) := by simp
    rw [this, List.set_getElem_self]
  rw [hmap] at hc
  have hs : ∀ (j : Nat) (y : Assoc), W[j]? = some y → offS (W.map sz2) (j + 1) = offS (W.map sz2) j + (ne y.a.sent.length + ne y.b.sent.length) := fun j y hy => by
    have hj := (List.getElem?_eq_some_iff.1 hy).1
    have hy' : W[j] = y := by rw [List.getElem?_eq_getElem hj] at hy; exact Option.some.inj hy
    rw [offS_succ (by simpa using hj)]
    simp only [List.getElem_map, hy']
    rfl
  by_cases hii : i = i'
  · subst hii
    rw [List.getElem?_set_self hil] at hb
    cases hb
    rcases hc with ⟨q1, q2, q3⟩ | ⟨q1, q2, q3⟩
    · exact .inl ⟨q2, (sent_len hl1).1 q1, q3⟩
    · rw [hl1] at q2
      exact .inr (.inl ⟨q2, (sent_len hl2).1 q1, q3⟩)
  · rw [List.getElem?_set_ne hii] at hb
    obtain ⟨r1, r2⟩ := nestA_at (base := base) hb
    have e1 := hs i a hi
    have e2 := hs i' b' hb
    refine .inr (.inr ?_)
    rcases Nat.lt_or_gt_of_ne hii with hlt | hlt
    · have := offS_le (W.map sz2) (i + 1) i' hlt
      rcases hc with ⟨q1, q2, q3⟩ | ⟨q1, q2, q3⟩
      · refine ⟨by rw [q2, q3]; exact r1 q1, fun ⟨u1, u2⟩ => ?_, fun ⟨u1, u2⟩ => ?_⟩
        · have := ne_pos u2; omega
        · have := ne_pos u2; omega
      · refine ⟨by rw [q2, q3]; exact r2 q1, fun ⟨u1, u2⟩ => ?_, fun ⟨u1, u2⟩ => ?_⟩
        · have := ne_pos u2; omega
        · have := ne_pos u2; omega
    · have := offS_le (W.map sz2) (i' + 1) i hlt
      rcases hc with ⟨q1, q2, q3⟩ | ⟨q1, q2, q3⟩
      · have := ne_pos q1
        exact ⟨by rw [q2, q3]; exact r1 q1, fun ⟨u1, u2⟩ => by omega, fun ⟨u1, u2⟩ => by omega⟩
      · have := ne_pos q1
        exact ⟨by rw [q2, q3]; exact r2 q1, fun ⟨u1, u2⟩ => by omega, fun ⟨u1, u2⟩ => by omega⟩
theorem aget_someA {cs : List AV} {i : Nat} {x : AV} (h : cs[i]? = some x) : aget cs i = x := by
  obtain ⟨h1, h2⟩ := List.getElem?_eq_some_iff.1 h
  have := aget_get h1
  rw [h] at this
  exact (Option.some.inj this).symm
theorem hget_hset_same (hp : List (Nat × Blk)) (b : Nat) (x : Blk) : hget (hset hp b x) b = some x := by rw [hget_hset, if_pos rfl]
def setA (p : Nat) (b : Assoc) (cs : List AV) : List AV := (((((((((((cs.set p (.i b.fr)).set (p + 1) (.i b.to)).set (p + 2) (.i b.state)).set (p + 3) (.bo b.byB)).set (p + 4) (.i b.a.tag)).set (p + 5) (.i b.a.streams)).set (p + 6) (.i b.a.first)).set (p + 8) (.i b.a.acked)).set (p + 9) (.i b.b.tag)).set (p + 10) (.i b.b.streams)).set (p + 11) (.i b.b.first)).set (p + 13) (.i b.b.acked)
theorem NestA.put {base i : Nat} {W : List Assoc} {cs : List AV} {a a' : Assoc} (h : NestA base W cs) (hi : W[i]? = some a) (hsz : sz2 a' = sz2 a) : NestA base (W.set i a') (setA (i * 14) a' cs) := by
  have hil := (List.getElem?_eq_some_iff.1 hi).1
  have hia : W[i] = a := by rw [List.getElem?_eq_getElem hil] at hi; exact Option.some.inj hi
  have hl1 : a'.a.sent.length = a.a.sent.length := congrArg Prod.fst hsz
  have hl2 : a'.b.sent.length = a.b.sent.length := congrArg Prod.snd hsz
  have hmap : (W.set i a').map sz2 = W.map sz2 := by
    rw [List.map_set, hsz, ← hia]
    have : sz2 W[i] = (W.map sz2)[i]'(by simpa using hil) := by simp
    rw [this, List.set_getElem_self]
  have hD : ∀ (id : Nat) {l l' : List Data}, l.length = l'.length → cellD id l = cellD id l' := fun id l l' h => by
    cases l with
    | nil => cases l' with
      | nil => rfl
      | cons => simp at h
    | cons => cases l' with
      | nil => simp at h
      | cons => unfold cellD; simp only [List.isEmpty_cons, Bool.false_eq_true, if_false]; rw [h]
  have b13 : i * 14 + 13 < cs.length := (List.getElem?_eq_some_iff.1 (h i 13 a _ hi rfl)).1
  intro i' j b c hb hc
  rw [hmap] at hc
  by_cases hii : i = i'
  · subst hii
    rw [List.getElem?_set_self hil] at hb
    cases hb
    have ho := fun c => h i j a c hi
    unfold cellsN at hc ho
    unfold setA
    match j, hc, ho with
    | 0, hc, _ => cases hc; repeat rw [List.getElem?_set_ne (by omega)]
                  exact List.getElem?_set_self (by omega)
    | 1, hc, _ => cases hc; repeat rw [List.getElem?_set_ne (by omega)]
                  exact List.getElem?_set_self (by simp only [List.length_set]; omega)
    | 2, hc, _ => cases hc; repeat rw [List.getElem?_set_ne (by omega)]
                  exact List.getElem?_set_self (by simp only [List.length_set]; omega)
    | 3, hc, _ => cases hc; repeat rw [List.getElem?_set_ne (by omega)]
                  exact List.getElem?_set_self (by simp only [List.length_set]; omega)
    | 4, hc, _ => cases hc; repeat rw [List.getElem?_set_ne (by omega)]
                  exact List.getElem?_set_self (by simp only [List.length_set]; omega)
    | 5, hc, _ => cases hc; repeat rw [List.getElem?_set_ne (by omega)]
                  exact List.getElem?_set_self (by simp only [List.length_set]; omega)
    | 6, hc, _ => cases hc; repeat rw [List.getElem?_set_ne (by omega)]
                  exact List.getElem?_set_self (by simp only [List.length_set]; omega)
    | 7, hc, ho => cases hc; repeat rw [List.getElem?_set_ne (by omega)]
                   rw [hD _ hl1]; exact ho _ rfl
    | 8, hc, _ => cases hc; repeat rw [List.getElem?_set_ne (by omega)]
                  exact List.getElem?_set_self (by simp only [List.length_set]; omega)
    | 9, hc, _ => cases hc; repeat rw [List.getElem?_set_ne (by omega)]
                  exact List.getElem?_set_self (by simp only [List.length_set]; omega)
    | 10, hc, _ => cases hc; repeat rw [List.getElem?_set_ne (by omega)]
                   exact List.getElem?_set_self (by simp only [List.length_set]; omega)
    | 11, hc, _ => cases hc; repeat rw [List.getElem?_set_ne (by omega)]
                   exact List.getElem?_set_self (by simp only [List.length_set]; omega)
    | 12, hc, ho => cases hc; repeat rw [List.getElem?_set_ne (by omega)]
                    rw [hl1, hD _ hl2]; exact ho _ rfl
    | 13, hc, _ => cases hc; exact List.getElem?_set_self (by simp only [List.length_set]; omega)
    | j + 14, hc, _ => cases hc
  · rw [List.getElem?_set_ne hii] at hb
    have hj : j < 14 := by
      have := (List.getElem?_eq_some_iff.1 hc).1
      exact this
    unfold setA
    repeat rw [List.getElem?_set_ne (by omega)]
    exact h i' j b c hb hc
theorem FormsA.setA {b n : Nat} {cs : List AV} (h : FormsA b n cs) (p : Nat) (a : Assoc) : FormsA b n (setA p a cs) := by
  have st : ∀ (l : List AV) (i : Nat) (x : RV), closR x = true → FormsA b n l → FormsA b n (l.set i (.r x)) := fun l i x hx hl c hc => by
    rcases List.mem_or_eq_of_mem_set hc with h | rfl
    · exact hl c h
    · exact .inl ⟨x, .inl hx, rfl⟩
  unfold Go.Cap.setA
  repeat' refine st _ _ _ rfl ?_
  exact h
set_option maxHeartbeats 4000000 in
theorem s_markAssocS (F : List (List RV)) (L : List Assoc) (cs : List AV) (n : Int) (hn : 0 ≤ n ∧ n ≤ 1000) (hs : SzB (L.map sz2)) (hcs : NestA 2 L cs) (hcf : FormsA 2 (tot L) cs) : Spec Tryz.prog 27 (2 + tot L) ((0, .row 2 F) :: (1, .var cs) :: nestA 2 L) [.sl 1 0 L.length, .i n]
    (fun r hp nx gs => ∃ cs', r = .i (n + offs (L.map sz2)) ∧ hp = (0, .row 2 F) :: (1, .var cs') :: nestA 2 (markAs (L.map sz2) n) ∧ nx = 2 + tot L ∧ gs = [] ∧ NestA 2 (markAs (L.map sz2) n) cs' ∧ FormsA 2 (tot L) cs') := by
  have hll : (L.map sz2).length = L.length := List.length_map ..
  obtain ⟨sz, hsz⟩ : ∃ sz, L.map sz2 = sz := ⟨_, rfl⟩
  rw [hsz] at hs hll ⊢
  refine mk27 rfl fun c hP hm => ?_
  unfold pc27
  simp only [hm,go_sem,↓reduceIte]
  have h100 := hs.len
  have hms : ∀ i, (markAs (sz.take i) n).length = min i sz.length := fun i => by rw [markAs_len, List.length_take]
  refine run_exit 0 (fun t0 => ∃ cs', NestA 2 (markAs sz n) cs' ∧ FormsA 2 (tot L) cs' ∧ t0 = ⟨[(1, .i (n + offs sz))], (0, .row 2 F) :: (1, .var cs') :: nestA 2 (markAs sz n), 2 + tot L, []⟩) ?_ (fun t0 h => by obtain ⟨cs', h1, h2, rfl⟩ := h; simp only [hm,go_sem,↓reduceIte]; exact ⟨cs', rfl, h1, h2⟩)
  refine lp_wpc (α := Nat × List AV) (fun y => ⟨[(0, .sl 1 0 L.length), (1, .i (n + offs (sz.take y.1))), (5, .i y.1)], (0, .row 2 F) :: (1, .var y.2) :: nestA 2 (markAs (sz.take y.1) n ++ L.drop y.1), 2 + tot L, []⟩)
    (fun y => y.1 ≤ L.length ∧ NestA 2 (markAs (sz.take y.1) n ++ L.drop y.1) y.2 ∧ FormsA 2 (tot L) y.2) (fun y => L.length - y.1) (0, cs) ⟨Nat.zero_le _, by simpa [markAs] using hcs, hcf⟩ (le_eq (by simp [markAs, offs])) ?_
  rintro ⟨i, cs⟩ ⟨hi, hN, hF⟩
  simp only at hi hN hF
  unfold pc27l0
  rcases Nat.lt_or_ge i L.length with hil | hil
  · have hw : IntKind.i64.wrap ((i : Int) + 1) = ((i + 1 : Nat) : Int) := by rw [wrap64 (by omega) (by omega)]; omega
    have hik : i < sz.length := by omega
    have hml : (markAs (sz.take i) n).length = i := by rw [hms]; omega
    have hoff := offs_take hik
    have hb := hs.at i
    have hsb := hs.el (List.getElem_mem hik)
    have hWi : (markAs (sz.take i) n ++ L.drop i)[i]? = some L[i] := by
      rw [List.getElem?_append_right (by omega), hml, Nat.sub_self, List.getElem?_drop, Nat.add_zero, List.getElem?_eq_getElem hil]
    have hsi : sz[i] = sz2 L[i] := by simp [← hsz]
    obtain ⟨k, hk⟩ : ∃ k, n + offs (sz.take i) = k := ⟨_, rfl⟩
    have hmk : markAs (sz.take (i + 1)) n = markAs (sz.take i) n ++ [markAssocG sz[i] k] := by
      have key : ∀ (l : List (Nat × Nat)) (s : Nat × Nat) (n : Int), markAs (l ++ [s]) n = markAs l n ++ [markAssocG s (n + offs l)] := by
        intro l
        induction l with
        | nil => intro s n; simp [markAs, offs]
        | cons t l ih => intro s n; simp only [List.cons_append, markAs, ih, offs]; rw [Int.add_assoc]
      rw [take_get hik, key, hk]
    have hWs : (markAs (sz.take i) n ++ L.drop i).set i (markAssocG sz[i] k) = markAs (sz.take (i + 1)) n ++ L.drop (i + 1) := by
      rw [hmk, List.set_append_right _ _ (by omega), hml, Nat.sub_self, List.drop_eq_getElem_cons hil, List.set_cons_zero, List.append_assoc]
      rfl
    generalize sz[i] = s at hoff hsb hsi hWs
    generalize L[i] = a at hWi hsi
    have hnext : n + offs (sz.take (i + 1)) = k + wd s := by rw [hoff, ← hk]; omega
    generalize markAs (sz.take i) n ++ L.drop i = W at hN hWi hWs
    have hsz2 : sz2 (markAssocG s k) = sz2 a := by rw [sz2_mark, hsi]
    have hN' := hN.put hWi hsz2
    have hstep := nestA_step (base := 2) hWi hsz2
    obtain ⟨at1, at2⟩ := nestA_at (base := 2) hWi
    have hla : a.a.sent.length = s.1 := by rw [hsi]; rfl
    have hlb : a.b.sent.length = s.2 := by rw [hsi]; rfl
    have hc := fun j c => hN i j a c hWi
    have b13 : i * 14 + 13 < cs.length := (List.getElem?_eq_some_iff.1 (hc 13 _ rfl)).1
    generalize hoA : 2 + offS (W.map sz2) i = idA at *
    have hA1 : 2 ≤ idA := by omega
    have hc7 : cs[i * 14 + 7]? = some (cellD idA a.a.sent) := hc 7 _ rfl
    have hc12 : cs[i * 14 + 12]? = some (cellD (idA + ne a.a.sent.length) a.b.sent) := hc 12 _ rfl
    rw [hk]
    have hkb : 0 ≤ k ∧ k ≤ 20001000 := by omega
    have w1 : IntKind.i64.wrap (k + 1) = k + 1 := wrap64 (by omega) (by omega)
    have w2 : IntKind.i64.wrap (k + 1 + 1) = k + 2 := by rw [wrap64 (by omega) (by omega)]; omega
    have w3 : IntKind.i64.wrap (k + 2 + 1) = k + 3 := by rw [wrap64 (by omega) (by omega)]; omega
    have w4 : IntKind.i64.wrap (k + 3 + 1) = k + 4 := by rw [wrap64 (by omega) (by omega)]; omega
    have w5 : IntKind.i64.wrap (k + 4 + 1) = k + 5 := by rw [wrap64 (by omega) (by omega)]; omega
    have w6 : IntKind.i64.wrap (k + 5 + 1) = k + 6 := by rw [wrap64 (by omega) (by omega)]; omega
    have w7 : IntKind.i64.wrap (k + 6 + 1) = k + 7 := by rw [wrap64 (by omega) (by omega)]; omega
    have w8 : IntKind.i64.wrap (k + 7 + 7 * s.1 + 1) = k + 8 + 7 * s.1 := by rw [wrap64 (by omega) (by omega)]; omega
    have w9 : IntKind.i64.wrap (k + 8 + 7 * s.1 + 1) = k + 9 + 7 * s.1 := by rw [wrap64 (by omega) (by omega)]; omega
    have w10 : IntKind.i64.wrap (k + 9 + 7 * s.1 + 1) = k + 10 + 7 * s.1 := by rw [wrap64 (by omega) (by omega)]; omega
    have w11 : IntKind.i64.wrap (k + 10 + 7 * s.1 + 1) = k + 11 + 7 * s.1 := by rw [wrap64 (by omega) (by omega)]; omega
    have w12 : IntKind.i64.wrap (k + 11 + 7 * s.1 + 7 * s.2 + 1) = k + wd s := by rw [wrap64 (by omega) (by omega)]; unfold wd; omega
    have w3d : IntKind.i64.wrap ((k + 3).tmod 3) = (k + 3).tmod 3 := by
      have := Int.tmod_lt_of_pos (k + 3) (b := 3) (by omega)
      have := Int.tmod_nonneg (a := k + 3) 3 (by omega)
      rw [wrap64 (by omega) (by omega)]
    simp only [hw, w1, w2, w3, w4, w5, w6, w7, w3d, Int.toNat_natCast, List.length_set, Nat.add_zero, Nat.add_assoc, Nat.reduceAdd, hm,go_sem,↓reduceIte]
    repeat' first | refine And.intro ?_ ?_ | intro _
    all_goals first
      | omega
      | skip
    rw [aget_someA (show _ = some (cellD idA a.a.sent) by
      repeat rw [List.getElem?_set_ne (by omega)]
      exact hc7)]
    have hne1 : ∀ l : List Data, l ≠ [] → idA ≠ 0 ∧ idA + ne a.a.sent.length ≠ 0 := fun _ _ => by omega
    refine c_markData hP idA a.a.sent (k + 7) ⟨by omega, by omega⟩ (by omega) (fun h => by
      rw [hget_cons, if_neg (by omega), hget_cons, if_neg (by omega)]
      exact at1 h) fun hp1 hh1 => ?_
    have h10 := hh1 1
    rw [if_neg (by omega), hget_cons, if_neg (by omega), hget_cons, if_pos rfl] at h10
    rw [hla] at hh1 ⊢
    simp only [h10, hget_hset_same, w8, w9, w10, w11, Int.toNat_natCast, List.length_set, Nat.add_zero, Nat.add_assoc, Nat.reduceAdd, hm,go_sem,↓reduceIte]
    repeat' first | refine And.intro ?_ ?_ | intro _
    all_goals first
      | omega
      | skip
    rw [aget_someA (show _ = some (cellD (idA + ne a.a.sent.length) a.b.sent) by
      repeat rw [List.getElem?_set_ne (by omega)]
      exact hc12)]
    refine c_markData hP (idA + ne a.a.sent.length) a.b.sent (k + 11 + 7 * s.1) ⟨by omega, by omega⟩ (by omega) (fun h => by
      simp only [hget_hset]
      rw [if_neg (by omega), if_neg (by omega), if_neg (by omega), if_neg (by omega), hh1, if_neg (fun e => by have := ne_pos e.2; omega), hget_cons, if_neg (by omega), hget_cons, if_neg (by omega)]
      exact at2 h) fun hp2 hh2 => ?_
    have h20 := hh2 1
    rw [if_neg (by omega), hget_hset_same] at h20
    rw [hlb] at hh2 ⊢
    simp only [h20, hget_hset_same, w12, Int.toNat_natCast, List.length_set, Nat.add_zero, Nat.add_assoc, Nat.reduceAdd, hm,go_sem,↓reduceIte]
    repeat' first | refine And.intro ?_ ?_ | intro _
    all_goals first
      | omega
      | skip
    rw [hw]
    refine ⟨(i + 1, setA (i * 14) (markAssocG s k) cs), ⟨hil, by simp only; rw [← hWs]; exact hN', hF.setA _ _⟩, by omega, ?_⟩
    simp only
    rw [← hWs, hnext]
    refine le_hsub (by simp only [go_sem, ↓reduceIte]) fun q x hx => ?_
    rw [hget_cons] at hx
    split at hx
    · rename_i hq
      subst hq
      rw [hget_hset, if_neg (by omega), hh2, if_neg (by omega)]
      simp only [hget_hset]
      rw [if_neg (by omega), if_neg (by omega), if_neg (by omega), if_neg (by omega), hh1, if_neg (by omega), hget_cons, if_pos rfl]
      exact hx
    rename_i hq0
    rw [hget_cons] at hx
    split at hx
    · rename_i hq
      subst hq
      rw [hget_hset_same, ← hx]
      rfl
    · rename_i hq
      have hq' : ¬ q = 1 := fun e => hq e.symm
      rw [hget_hset, if_neg hq', hh2]
      simp only [hget_hset]
      rw [if_neg hq', if_neg hq', if_neg hq', if_neg hq', hh1, hget_cons, if_neg hq0, hget_cons, if_neg hq]
      rcases hstep q x hx with ⟨q1, q2, q3⟩ | ⟨q1, q2, q3⟩ | ⟨q1, q2, q3⟩
      · skip
        rw [if_neg (fun e => by have := ne_pos q2; omega), if_pos ⟨q1, q2⟩, q3]
        rfl
      · skip
        rw [if_pos ⟨q1, q2⟩, q3]
        rfl
      · skip
        rw [if_neg q3, if_neg q2]
        exact q1
  · have : i = L.length := by omega
    subst this
    rw [List.drop_length, List.append_nil, ← hll, List.take_length] at hN
    rw [List.drop_length, List.append_nil, ← hll, List.take_length]
    simp only [hll, hm,go_sem,↓reduceIte]
    repeat' first | refine And.intro ?_ ?_ | intro _
    all_goals first
      | omega
      | exact ⟨_, ⟨_, hN, hF, rfl⟩, le_hget (by simp only [go_sem, ↓reduceIte]) fun _ => rfl⟩
end Go.Cap
namespace Go.Cap
def closBH : Blk → Prop
  | .var cs => ∀ x ∈ cs, closA x = true ∨ x = .r (.ro none [])
  | .row _ L => ∀ r ∈ L, ∀ x ∈ r, closR x = true
theorem Br.closH {M M' : Mem} {ι : Nat → Option BI} {w : World} {bi : BI} {blk : Blk} (h : Br M ι w bi blk) (hc : closBH blk) (hn : ∀ g, bi.g = some g → M' g = none) : Br M' ι w bi blk := by
  unfold Br at *
  cases hgi : bi.g with
  | none => simpa [hgi] using h
  | some g =>
    simp only [hgi] at h ⊢
    obtain ⟨h0, arr, e, h1, h2, h3, h4⟩ := h
    refine ⟨hn g hgi, arr, e, h1, h2, h3, ?_⟩
    cases blk with
    | var cs =>
      refine ⟨h4.1, h4.2.1, fun j x v hx hv => ?_⟩
      rcases hc x (List.mem_of_getElem? hx) with hc | rfl
      · exact (h4.2.2 j x v hx hv).clos hc
      · have := h4.2.2 j _ v hx hv
        cases this with
        | r _ _ q => exact .r _ _ q.empty
    | row sz L =>
      refine ⟨h4.1, h4.2.1, h4.2.2.1, fun i j x v hx hv => (h4.2.2.2 i j x v hx hv).clos ?_⟩
      cases hi : L[i]? with
      | none => rw [hi] at hx; cases hx
      | some r =>
        rw [hi] at hx
        exact hc r (List.mem_of_getElem? hi) x (List.mem_of_getElem? hx)
section
variable {c : Cx} {s : St}
theorem call_clh {f : Nat} {as0 args : List AV} {Q : AV → List (Nat × Blk) → Nat → List Nat → Prop} {K : AV → St → Prop} (hs : Spec c.P f 0 [] as0 Q)
    (ha : args.length = as0.length ∧ ∀ (j : Nat) a a0, args[j]? = some a → as0[j]? = some a0 → Vw s.hp a a0)
    (hK : ∀ r hp' nx' gs', Q r hp' nx' gs' → (closA r = true ∧ ∀ p ∈ hp', closBH p.2) ∧ K (renA (s.nx + ·) r) ⟨s.sl, renH (s.nx + ·) hp' ++ s.hp, s.nx + nx', gs' ++ s.gs⟩) : Call c f args s K := by
  intro M ι w h vs hargs
  let Mc := fixed M ι s.hp w
  have hsub : MSub Mc w := fun g arr e fz hg => by
    simp only [Mc, fixed] at hg
    split at hg
    · rename_i x hx; cases hg; exact h.msub g arr e fz hx
    · split at hg
      · split at hg
        · rename_i arr' e' f' hw; cases hg; exact hw
        · cases hg
      · cases hg
  have hw0 : Wr ⟨c.P, w, [], Mc, 0, 0, fun _ => none⟩ Mc (fun _ => none) [] 0 [] w :=
    ⟨hsub, Mem.le_refl _, fun g x hx => .inl hx, fun b x hx => by simp [hget] at hx, fun b b' bi bi' g h1 => by simp [hget] at h1, fun b bi g h1 => by simp [hget] at h1, ⟨rfl, rfl, rfl, Nat.le_refl _, fun _ _ _ => rfl⟩, fun _ _ => rfl, Nat.le_refl _, fun b x hb hx => hx, List.nodup_nil, fun g hg => by cases hg⟩
  have hargs0 : Args Mc (fun _ => none) as0 vs := ⟨by rw [hargs.1]; exact ha.1, fun j a0 v h1 h2 => by
    have hj : j < args.length := by have := (List.getElem?_eq_some_iff.1 h1).1; omega
    exact (ha.2 j _ a0 (List.getElem?_eq_getElem hj) h1).ok h.heap (hargs.2 j _ v (List.getElem?_eq_getElem hj) h2)⟩
  refine (hs Mc _ w [] 0 hw0 vs hargs0).mono fun e w' he => ?_
  obtain ⟨v, r, hp', nx', gs', M', ι', rfl, hr, hQ, hw'⟩ := he
  obtain ⟨⟨hf, hfb⟩, hK⟩ := hK r hp' nx' gs' hQ
  let fn : Nat → Nat := (s.nx + ·)
  have hm0 : Mc.le M' := hw'.m0
  let M2 : Mem := fun g => match M g, Mc g with
    | none, some _ => none
    | _, _ => M' g
  have hle : M.le M2 := fun g x hx => by
    simp only [M2, hx]
    have := fixed_le M ι s.hp w g x hx
    exact hm0 g x this
  have hM2 : ∀ g x, M2 g = some x → M' g = some x ∧ (M g = none → Mc g = none) := fun g x hx => by
    simp only [M2] at hx
    cases h1 : M g with
    | some y => rw [h1] at hx; exact ⟨hx, fun e => by cases e⟩
    | none =>
      rw [h1] at hx
      cases h2 : Mc g with
      | some y => rw [h2] at hx; cases hx
      | none => rw [h2] at hx; exact ⟨hx, fun _ => rfl⟩
  let ι2 : Nat → Option BI := fun b => if b < s.nx then ι b else ι' (b - s.nx)
  have hlow : ∀ b x, ι b = some x → b < s.nx := fun b x hx => by
    rcases Nat.lt_or_ge b s.nx with h1 | h1
    · exact h1
    · rw [h.fresh b h1] at hx; cases hx
  have P2 : ∀ b x, ι b = some x → ι2 b = some x := fun b x hx => by
    show (if b < s.nx then ι b else _) = _
    rw [if_pos (hlow b x hx)]; exact hx
  have P1 : ∀ b x, ι' b = some x → ι2 (fn b) = some x := fun b x hx => by
    show (if s.nx + b < s.nx then ι (s.nx + b) else ι' (s.nx + b - s.nx)) = _
    rw [if_neg (by omega), Nat.add_sub_cancel_left]; exact hx
  have hblk : ∀ g, g < w.heap.size → w'.heap[g]? = w.heap[g]? := fun g hg => hw'.kept.block g hg (by simp)
  have hM2n : ∀ g, M' g = none → M2 g = none := fun g h0 => by
    cases hm : M2 g with
    | none => rfl
    | some y => rw [(hM2 g y hm).1] at h0; cases h0
  have hcase : ∀ b x, hget (renH fn hp' ++ s.hp) b = some x → (∃ b0 x0 bi, hget hp' b0 = some x0 ∧ fn b0 = b ∧ x = renB fn x0 ∧ ι' b0 = some bi ∧ ι2 b = some bi ∧ Br M' ι' w' bi x0) ∨
      (hget s.hp b = some x ∧ ∃ bi, ι b = some bi ∧ ι2 b = some bi ∧ Br M ι w bi x) := fun b x hx => by
    rw [hget_append] at hx
    cases hq : hget (renH fn hp') b with
    | some y =>
      rw [hq] at hx
      cases hx
      obtain ⟨b0, x0, k1, k2, k3⟩ := hget_renH hq
      obtain ⟨bi, q1, q2⟩ := hw'.heap b0 x0 k1
      exact .inl ⟨b0, x0, bi, k1, k2, k3, q1, by rw [← k2]; exact P1 _ _ q1, q2⟩
    | none =>
      rw [hq] at hx
      obtain ⟨bi, q1, q2⟩ := h.heap b x hx
      exact .inr ⟨hx, bi, q1, P2 _ _ q1, q2⟩
  have hold : ∀ bi g x, Br M ι w bi x → bi.g = some g → M2 g = none := fun bi g x k2 hg => by
    cases hm : M2 g with
    | none => rfl
    | some y =>
      obtain ⟨q1, q2⟩ := hM2 g y hm
      have hMg := (k2.lt hg).2
      rcases hw'.mnew g y q1 with k | k | k
      · have k' : Mc g = some y := k
        rw [q2 hMg] at k'; cases k'
      · exact absurd k (Nat.not_le.2 (k2.lt hg).1)
      · cases k
  have hnew : ∀ b0 x0 bi g, hget hp' b0 = some x0 → ι' b0 = some bi → bi.g = some g → w.heap.size ≤ g := fun b0 x0 bi g q1 q2 q3 => by
    rcases hw'.own b0 bi g (by rw [q1]; simp) q2 q3 with k | k
    · exact k
    · cases k
  have hsm : ∀ g x, M g = some x → g < w.heap.size := fun g x hx => by
    obtain ⟨a1, a2, a3⟩ := x
    exact (Array.getElem?_eq_some_iff.1 (h.msub g _ _ _ hx)).1
  have hscm : ∀ g x, Mc g = some x → g < w.heap.size := fun g x hx => by
    obtain ⟨a1, a2, a3⟩ := x
    exact (Array.getElem?_eq_some_iff.1 (hsub g _ _ _ hx)).1
  have hgs' : ∀ g, g ∈ gs' → M' g ≠ none ∧ w.heap.size ≤ g := fun g hg => by
    obtain ⟨q1, q2⟩ := hw'.gsm g hg
    rcases q2 with q2 | q2
    · exact ⟨q1, q2⟩
    · cases q2
  have hgnew : ∀ g, g ∈ gs' → M2 g = M' g := fun g hg => by
    have hge := (hgs' g hg).2
    have e1 : M g = none := by
      cases hm : M g with
      | none => rfl
      | some x => have := hsm g x hm; omega
    have e2 : Mc g = none := by
      cases hm : Mc g with
      | none => rfl
      | some x => have := hscm g x hm; omega
    simp only [M2, e1, e2]
  refine ⟨v, renA fn r, _, _, _, M2, ι2, rfl, (hr.clos hf).push P1, hK, ?_, hle, P2⟩
  have hgsn : (gs' ++ s.gs).Nodup := List.nodup_append.2 ⟨hw'.gsn, h.gsn, fun g hg g' hg' e => by
    have q1 := (hgs' g hg).2
    cases hm : M g' with
    | none => exact (h.gsm g' hg').1 hm
    | some x => have := hsm g' x hm; omega⟩
  have hgsm2 : ∀ g, g ∈ gs' ++ s.gs → M2 g ≠ none ∧ (c.w0.heap.size ≤ g ∨ g ∈ c.X) := fun g hg => by
    rcases List.mem_append.1 hg with hg | hg
    · obtain ⟨q1, q2⟩ := hgs' g hg
      exact ⟨by rw [hgnew g hg]; exact q1, .inl (Nat.le_trans h.kept.size q2)⟩
    · refine ⟨fun h0 => ?_, (h.gsm g hg).2⟩
      cases hm : M g with
      | none => exact (h.gsm g hg).1 hm
      | some y => rw [hle g y hm] at h0; cases h0
  refine ⟨fun g arr e fz hg => hw'.msub g arr e fz (hM2 _ _ hg).1, Mem.le_trans h.m0 hle, fun g x hx => ?_, fun b x hx => ?_, fun b b' bi bi' g h1 h2 h3 h4 h5 h6 => ?_, fun b bi g h1 h2 h3 => ?_, ?_, fun b hb => ?_, Nat.le_trans h.mle (Nat.le_add_right _ _), fun b x hb hx => ?_, hgsn, hgsm2⟩
  · obtain ⟨h1, h2⟩ := hM2 g x hx
    rcases hw'.mnew g x h1 with k | k | k
    · have k' : Mc g = some x := k
      cases hM : M g with
      | none => rw [h2 hM] at k'; cases k'
      | some y =>
        have := fixed_le M ι s.hp w g y hM
        have e : y = x := by
          have k2 : fixed M ι s.hp w g = some x := k
          rw [this] at k2; cases k2; rfl
        subst e
        exact h.mnew g y hM
    · exact .inr (.inl (Nat.le_trans h.kept.size k))
    · cases k
  · rcases hcase b x hx with ⟨b0, x0, bi, k1, k2, k3, k4, k5, k6⟩ | ⟨k1, bi, k3, k4, k5⟩
    · refine ⟨bi, k5, k3 ▸ (k6.closH (hfb _ (hget_mem _ _ _ k1)) (fun g hg => hM2n g (k6.lt hg).2)).push P1⟩
    · exact ⟨bi, k4, k5.ext hle P2 (fun g hg => hblk g (k5.lt hg).1) (fun g hg => hold bi g x k5 hg)⟩
  · obtain ⟨x1, e1⟩ := hget_ne_some h1
    obtain ⟨x2, e2⟩ := hget_ne_some h2
    rcases hcase b x1 e1 with ⟨b0, x0, bj, k1, k2, k3, k4, k5, k6⟩ | ⟨k1, bj, k3, k4, k5⟩ <;> rcases hcase b' x2 e2 with ⟨b0', x0', bj', q1, q2, q3, q4, q5, q6⟩ | ⟨q1, bj', q3, q4, q5⟩
    · rw [h3] at k5; cases k5
      rw [h4] at q5; cases q5
      have := hw'.inj b0 b0' bi bi' g (by rw [k1]; simp) (by rw [q1]; simp) k4 q4 h5 h6
      rw [← k2, ← q2, this]
    · rw [h3] at k5; cases k5
      rw [h4] at q4; cases q4
      exact absurd (hnew b0 x0 bi g k1 k4 h5) (Nat.not_le.2 (q5.lt h6).1)
    · rw [h3] at k4; cases k4
      rw [h4] at q5; cases q5
      exact absurd (hnew b0' x0' bi' g q1 q4 h6) (Nat.not_le.2 (k5.lt h5).1)
    · rw [h3] at k4; cases k4
      rw [h4] at q4; cases q4
      exact h.inj b b' bi bi' g (by rw [k1]; simp) (by rw [q1]; simp) k3 q3 h5 h6
  · obtain ⟨x1, e1⟩ := hget_ne_some h1
    rcases hcase b x1 e1 with ⟨b0, x0, bj, k1, k2, k3, k4, k5, k6⟩ | ⟨k1, bj, k3, k4, k5⟩
    · rw [h2] at k5; cases k5
      exact .inl (Nat.le_trans h.kept.size (hnew b0 x0 bi g k1 k4 h3))
    · rw [h2] at k4; cases k4
      exact h.own b bi g (by rw [k1]; simp) k3 h3
  · exact ⟨hw'.kept.os.trans h.kept.os, hw'.kept.tape.trans h.kept.tape, hw'.kept.output.trans h.kept.output, Nat.le_trans h.kept.size hw'.kept.size, fun g hg hx => (hblk g (Nat.lt_of_lt_of_le hg h.kept.size)).trans (h.kept.block g hg hx)⟩
  · show (if b < s.nx then ι b else ι' (b - s.nx)) = none
    rw [if_neg (by omega)]
    exact hw'.fresh _ (by omega)
  · have := h.mle
    refine h.anc b x hb ?_
    have e : ι2 b = ι b := if_pos (by omega)
    rw [← e]; exact hx
end
def Emb (f : Nat → Nat) (hp0 hp : List (Nat × Blk)) : Prop := ∀ q b, hget hp0 q = some b → hget hp (f q) = some (renB f b)
theorem Vw.ren {f : Nat → Nat} {hp0 hp : List (Nat × Blk)} {a x : AV} (hE : Emb f hp0 hp) (h : Vw hp0 a x) : Vw hp (renA f a) x := by
  induction h with
  | r x => exact .r x
  | nil => exact .nil
  | ro g L => exact .ro g L
  | sl b st n sz L h hn => exact .sl (f b) st n sz L (hE b _ h) hn
  | agg cs cs' hl h ih =>
    refine .agg _ cs' (by rw [renL_len]; exact hl) fun j c c' hc hc' => ?_
    rw [renL_get] at hc
    cases hj : cs[j]? with
    | none => rw [hj] at hc; cases hc
    | some c0 =>
      rw [hj] at hc
      cases hc
      exact ih j c0 c' hj hc'
  | nest b sz cs L cell hb hr h1 h2 ih =>
    refine .nest (f b) sz (renA.renL f cs) L (fun i j => renA f (cell i j)) (hE b _ hb) hr (fun i j x hx => ?_) fun i j x hx => ih i j x hx
    rw [renL_get, h1 i j x hx]; rfl
  | weak a L L' h hw ih => exact .weak _ L L' ih hw
  | junk v => exact .junk _
def ClA (n : Nat) (a : AV) : Prop := ∀ f g : Nat → Nat, (∀ q, q < n → f q = g q) → renA f a = renA g a
def ClB (n : Nat) (b : Blk) : Prop := ∀ f g : Nat → Nat, (∀ q, q < n → f q = g q) → renB f b = renB g b
structure OwnH (n : Nat) (H : List (Nat × Blk)) : Prop where
  lt : ∀ q b, hget H q = some b → q < n
  cl : ∀ q b, hget H q = some b → ClB n b
theorem ClB.row (n sz : Nat) (L : List (List RV)) : ClB n (.row sz L) := fun f g h => rfl
theorem ClB.var {n : Nat} {cs : List AV} (h : ∀ c ∈ cs, ClA n c) : ClB n (.var cs) := fun f g hfg => by
  show Blk.var _ = Blk.var _
  rw [renL_eq, renL_eq, List.map_congr_left fun c hc => h c hc f g hfg]
theorem ClA.r (n : Nat) (x : RV) : ClA n (.r x) := fun f g h => rfl
theorem ClA.sl {n b st k : Nat} (hb : b < n) : ClA n (.sl b st k) := fun f g h => by
  show AV.sl _ _ _ = AV.sl _ _ _
  rw [h b hb]
theorem FormsA.cl {b n m : Nat} {cs : List AV} (h : FormsA b n cs) (hm : b + n ≤ m) : ∀ c ∈ cs, ClA m c := fun c hc => by
  rcases h c hc with ⟨x, _, rfl⟩ | ⟨k, l, hk, rfl⟩
  · exact .r _ _
  · exact .sl (by omega)
theorem hget_renH_inj {f : Nat → Nat} (hf : ∀ a b, f a = f b → a = b) : ∀ (hp : List (Nat × Blk)) (q : Nat), hget (renH f hp) (f q) = (hget hp q).map (renB f)
  | [], q => rfl
  | (j, v) :: l, q => by
    have := hget_renH_inj hf l q
    unfold renH at this ⊢
    simp only [List.map_cons, hget]
    by_cases h : j = q
    · subst h; rw [if_pos rfl, if_pos rfl]; rfl
    · rw [if_neg h, if_neg (fun e => h (hf _ _ e))]
      exact this
def rgn : Nat → Nat → List Nat
  | _, 0 => []
  | b, n + 1 => b :: rgn (b + 1) n
theorem rgn_len : ∀ (b n : Nat), (rgn b n).length = n
  | _, 0 => rfl
  | b, n + 1 => by simp only [rgn, List.length_cons, rgn_len (b + 1) n]
theorem mem_rgn : ∀ {b n x : Nat}, x ∈ rgn b n ↔ b ≤ x ∧ x < b + n
  | b, 0, x => by simp [rgn]
  | b, n + 1, x => by simp only [rgn, List.mem_cons, mem_rgn (b := b + 1)]; omega
theorem rgn_nodup : ∀ (b n : Nat), (rgn b n).Nodup
  | _, 0 => List.nodup_nil
  | b, n + 1 => List.nodup_cons.2 ⟨fun h => by have := (mem_rgn.1 h).1; omega, rgn_nodup (b + 1) n⟩
theorem idf_rgn : ∀ {b n nx j : Nat}, j < n → idf (rgn b n) nx j = b + j
  | b, n + 1, nx, 0, _ => rfl
  | b, n + 1, nx, j + 1, h => by
    show idf (rgn (b + 1) n) nx j = _
    rw [idf_rgn (by omega)]; omega
theorem idf_rgn_ge {b n nx j : Nat} (h : n ≤ j) : idf (rgn b n) nx j = nx + (j - n) := by
  rw [idf_ge (by rw [rgn_len]; exact h), rgn_len]
theorem call_own {c : Cx} {s : St} {f : Nat} {H : List (Nat × Blk)} {as0 args : List AV} {Q : AV → List (Nat × Blk) → Nat → List Nat → Prop} {K : AV → St → Prop} (lo n : Nat) (hs : Spec c.P f n H as0 Q)
    (hH : OwnH n H) (hm : ∀ p ∈ H, hget H p.1 = some p.2) (hall : ∀ j, j < n → ∃ x, hget H j = some x) (hE : Emb (lo + ·) H s.hp) (hlo : lo + n ≤ s.nx) (ha : args = as0.map (renA (lo + ·))) (has : ∀ a ∈ as0, ClA n a)
    (hQ : ∀ r hp nx gs, Q r hp nx gs → nx = n ∧ gs = [] ∧ OwnH n hp ∧ ClA n r)
    (hK : ∀ r hp hp', Q r hp n [] → Emb (lo + ·) hp hp' → (∀ q, q < lo ∨ lo + n ≤ q → hget hp' q = hget s.hp q) → K (renA (lo + ·) r) ⟨s.sl, hp', s.nx, s.gs⟩) : Call c f args s K := by
  have hl := rgn_len lo n
  have hf : ∀ q, q < n → idf (rgn lo n) s.nx q = lo + q := fun q hq => idf_rgn hq
  refine call_spec (rgn lo n) (by rw [hl]; exact hs) (rgn_nodup _ _) (fun p hp => ?_) (fun j hj => ?_) ?_ fun r hp nx gs hq => ?_
  · have h1 := hm p hp
    have h2 := hH.lt _ _ h1
    refine ⟨by rw [hl]; exact h2, ?_⟩
    rw [hf _ h2, hE _ _ h1, hH.cl _ _ h1 (lo + ·) _ fun q hq => (hf q hq).symm]
  · rw [hl] at hj
    obtain ⟨x, hx⟩ := hall j hj
    exact ⟨x, hget_mem _ _ _ hx⟩
  · rw [ha]
    exact List.map_congr_left fun a h => has a h _ _ fun q hq => (hf q hq).symm
  · obtain ⟨rfl, rfl, h3, h4⟩ := hQ _ _ _ _ hq
    rw [h4 _ (lo + ·) hf, hl, Nat.sub_self]
    have hinj : ∀ a b, idf (rgn lo nx) s.nx a = idf (rgn lo nx) s.nx b → a = b := fun a b e => by
      rcases Nat.lt_or_ge a nx with h | h <;> rcases Nat.lt_or_ge b nx with h' | h'
      · rw [hf a h, hf b h'] at e; omega
      · rw [hf a h, idf_rgn_ge h'] at e; omega
      · rw [idf_rgn_ge h, hf b h'] at e; omega
      · rw [idf_rgn_ge h, idf_rgn_ge h'] at e; omega
    refine hK r hp _ hq (fun q b hb => ?_) fun q hq => ?_
    · have h1 := h3.lt q b hb
      have := hget_renH_inj hinj hp q
      rw [hf q h1, hb] at this
      rw [hget_append, this]
      show some (renB _ b) = _
      rw [h3.cl q b hb _ (lo + ·) hf]
    · rw [hget_append]
      cases hx : hget (renH (idf (rgn lo nx) s.nx) hp) q with
      | some y =>
        obtain ⟨b0, x0, k1, k2, k3⟩ := hget_renH hx
        have := h3.lt _ _ k1
        rw [hf _ this] at k2
        omega
      | none =>
        show hget (hdels (rgn lo nx) s.hp) q = _
        rw [hget_hdels, if_neg fun e => by have := mem_rgn.1 e; omega]
end Go.Cap
namespace Go.Cap
attribute [local irreducible] Call Run Spec
mutual
theorem renA_self : ∀ (x : AV), renA (fun q => q) x = x
  | .r _ => rfl
  | .ptr .. => rfl
  | .sl .. => rfl
  | .rp .. => rfl
  | .junk => rfl
  | .agg cs => by simp only [renA, renL_self cs]
  | .tup cs => by simp only [renA, renL_self cs]
  | .fn g cs => by simp only [renA, renL_self cs]
theorem renL_self : ∀ (l : List AV), renA.renL (fun q => q) l = l
  | [] => rfl
  | x :: l => by simp only [renA.renL, renA_self x, renL_self l]
end
theorem renB_self (b : Blk) : renB (fun q => q) b = b := by
  cases b with
  | var cs => show Blk.var _ = _; rw [renL_self]
  | row sz L => rfl
theorem hget_of_mem : ∀ {H : List (Nat × Blk)} {p : Nat × Blk}, (H.map Prod.fst).Nodup → p ∈ H → hget H p.1 = some p.2
  | q :: l, p, hn, hp => by
    rw [List.map_cons, List.nodup_cons] at hn
    obtain ⟨j, v⟩ := q
    rcases List.mem_cons.1 hp with rfl | hp
    · rw [hget_cons, if_pos rfl]
    · rw [hget_cons, if_neg fun e => hn.1 (by rw [e]; exact List.mem_map.2 ⟨p, hp, rfl⟩)]
      exact hget_of_mem hn.2 hp
theorem dense {n : Nat} {H : List (Nat × Blk)} (h : H.map Prod.fst = rgn 0 n) : (H.map Prod.fst).Nodup ∧ (∀ p ∈ H, p.1 < n ∧ hget H p.1 = some p.2) ∧ (∀ j, j < n → ∃ x, hget H j = some x) ∧ ∀ q b, hget H q = some b → q < n := by
  have hn : (H.map Prod.fst).Nodup := by rw [h]; exact rgn_nodup _ _
  have hl : ∀ p ∈ H, p.1 < n := fun p hp => by
    have : p.1 ∈ rgn 0 n := by rw [← h]; exact List.mem_map.2 ⟨p, hp, rfl⟩
    have := (mem_rgn.1 this).2
    omega
  refine ⟨hn, fun p hp => ⟨hl p hp, hget_of_mem hn hp⟩, fun j hj => ?_, fun q b hb => hl _ (hget_mem _ _ _ hb)⟩
  have : j ∈ H.map Prod.fst := by rw [h]; exact mem_rgn.2 ⟨Nat.zero_le _, by omega⟩
  obtain ⟨p, hp, rfl⟩ := List.mem_map.1 this
  exact ⟨_, hget_of_mem hn hp⟩
structure ShQ (n : Nat) (Q : AV → List (Nat × Blk) → Nat → List Nat → Prop) (r : AV) (hp : List (Nat × Blk)) : Prop where
  h : ∃ hp', Q r hp' n [] ∧ hp'.map Prod.fst = rgn 0 n ∧ (∀ p ∈ hp', ClB n p.2) ∧ (∀ q b, hget hp' q = some b → hget hp q = some b) ∧ ClA n r
theorem Spec.shrink {P : Program} {f n : Nat} {H : List (Nat × Blk)} {args : List AV} {Q : AV → List (Nat × Blk) → Nat → List Nat → Prop} (h : Spec P f n H args fun r hp nx gs => ShQ n Q r hp) : Spec P f n H args Q :=
  h.le fun r hp nx gs hQ => by
    obtain ⟨hp', h1, h2, h3, h4, h5⟩ := hQ
    obtain ⟨d1, d2, d3, d4⟩ := dense h2
    have hid : ∀ q, q < n → nums [] n nx q = q := fun q hq => by rw [nums_nil, if_pos hq]
    refine ⟨r, hp', n, [], h1, fun c hc => le_nums [] (by simp) (by simp) ?_ ?_ ?_ (by simp [hc]) ⟨List.nodup_nil, fun g hg => by cases hg⟩⟩
    · intro p hp'
      simp only [List.mem_singleton] at hp'
      subst hp'
      right
      simp only [get, if_true]
      rw [h5 _ (fun q => q) hid, renA_self]
    · intro p hp
      obtain ⟨k1, k2⟩ := d2 p hp
      show hget _ (nums [] n nx p.1) = some (renB (nums [] n nx) p.2)
      rw [hid _ k1, h3 p hp _ (fun q => q) hid, renB_self]
      exact h4 _ _ k2
    · show (hp'.map fun p => nums [] n nx p.1).Nodup
      rw [List.map_congr_left fun p hp => hid _ (d2 p hp).1]
      exact d1
theorem nestO_ids : ∀ (base : Nat) (l : List (Nat × Nat × List (List RV))), (nestO base (l.map some)).map Prod.fst = rgn base l.length
  | _, [] => rfl
  | base, p :: l => by
    simp only [List.map_cons, nestO, List.length_cons, rgn, nestO_ids (base + 1) l]
theorem DL_len (L : List Assoc) : (DL L).length = tot L := by
  rw [DL_eq, DX_len, szX_toG]
  unfold tot toG
  rw [List.length_map]
theorem nestA_ids (base : Nat) (L : List Assoc) : (nestA base L).map Prod.fst = rgn base (tot L) := by
  rw [← DL_len]; exact nestO_ids base (DL L)
theorem nestA_row {base : Nat} {L : List Assoc} {p : Nat × Blk} (h : p ∈ nestA base L) : ∃ l : List Data, p.2 = .row 7 (l.map Data.row) := by
  have hn : ((nestA base L).map Prod.fst).Nodup := by rw [nestA_ids]; exact rgn_nodup _ _
  obtain ⟨i, a, _, h | h⟩ := nestA_get (hget_of_mem hn h)
  · exact ⟨_, h.2.2⟩
  · exact ⟨_, h.2.2⟩
theorem sz2_markAs : ∀ (l : List (Nat × Nat)) (n : Int), (markAs l n).map sz2 = l
  | [], _ => rfl
  | s :: l, n => by simp only [markAs, List.map_cons, sz2_mark, sz2_markAs l]
theorem tot_mark (L : List Assoc) (n : Int) : tot (markAs (L.map sz2) n) = tot L := by
  unfold tot
  rw [sz2_markAs, markAs_len, List.length_map]
theorem FormsA.clH {b n : Nat} {cs : List AV} (h : FormsA b n cs) : ∀ c ∈ cs, closA c = true ∨ c = .r (.ro none []) := fun c hc => by
  rcases h c hc with ⟨x, h | rfl, rfl⟩ | ⟨k, l, hk, rfl⟩
  · exact .inl h
  · exact .inr rfl
  · exact .inl rfl
theorem fndClosed (l : List Fnd) : ∀ r ∈ l.map Fnd.row, ∀ x ∈ r, closR x = true := fun r hr y hy => by
  obtain ⟨d, _, rfl⟩ := List.mem_map.1 hr
  simp only [Fnd.row, List.mem_cons, List.not_mem_nil, or_false] at hy
  rcases hy with rfl | rfl <;> rfl
structure OwnA (x : Mon) (r : AV) (hp : List (Nat × Blk)) (nx : Nat) : Prop where
  ids : hp.map Prod.fst = rgn 0 nx
  blk : ∀ p ∈ hp, ClB nx p.2 ∧ closBH p.2
  cl : ClA nx r
  clos : closA r = true
  vw : Vw hp r x.ro
  res : ∃ lc fc, r = .agg [.i x.records, lc, fc]
theorem OwnM.all {x : Mon} {r : AV} {hp : List (Nat × Blk)} {nx : Nat} {gs : List Nat} (h : OwnM x r hp nx gs) : OwnA x r hp nx ∧ gs = [] := by
  have hagg : ∀ {n : Nat} {cs : List AV}, (∀ c ∈ cs, ClA n c) → ClA n (.agg cs) := fun {n cs} h f g hfg => by
    show AV.agg _ = AV.agg _
    rw [renL_eq, renL_eq, List.map_congr_left fun c hc => h c hc f g hfg]
  rcases h with ⟨h⟩
  rcases h with ⟨rfl, rfl, rfl, rfl, rfl⟩ | ⟨hl, rfl, rfl, rfl, rfl⟩ | ⟨hl, rfl, rfl, rfl, rfl⟩ | ⟨cs, hN, hF, rfl, rfl, rfl, rfl⟩
  · refine ⟨⟨rfl, fun p hp => (List.not_mem_nil hp).elim, fun f g h => rfl, rfl, ?_, _, _, rfl⟩, rfl⟩
    exact vw_agg (.cons (.r _) (.cons .nil (.cons .nil .nil)))
  · refine ⟨⟨rfl, fun p hp => ?_, hagg fun c hc => ?_, rfl, ?_, _, _, rfl⟩, rfl⟩
    · rw [List.mem_singleton] at hp; subst hp
      exact ⟨.row _ _ _, fndClosed _⟩
    · simp only [List.mem_cons, List.not_mem_nil, or_false] at hc
      rcases hc with rfl | rfl | rfl
      · exact .r _ _
      · exact .r _ _
      · exact .sl (by omega)
    · unfold Mon.ro
      rw [hl]
      exact vw_agg (.cons (.r _) (.cons .nil (.cons (Vw.full rfl (by simp)) .nil)))
  · refine ⟨⟨rfl, fun p hp => ?_, hagg fun c hc => ?_, rfl, ?_, _, _, rfl⟩, rfl⟩
    · simp only [List.mem_cons, List.not_mem_nil, or_false] at hp
      rcases hp with rfl | rfl
      · exact ⟨.row _ _ _, fndClosed _⟩
      · exact ⟨.row _ _ _, fun r hr => (List.not_mem_nil hr).elim⟩
    · simp only [List.mem_cons, List.not_mem_nil, or_false] at hc
      rcases hc with rfl | rfl | rfl
      · exact .r _ _
      · exact .sl (by omega)
      · exact .sl (by omega)
    · unfold Mon.ro
      rw [hl]
      exact vw_agg (.cons (.r _) (.cons (Vw.full rfl rfl) (.cons (Vw.full rfl (by simp)) .nil)))
  · refine ⟨⟨?_, fun p hp => ?_, hagg fun c hc => ?_, rfl, ?_, _, _, rfl⟩, rfl⟩
    · rw [List.map_cons, List.map_cons, nestA_ids, Nat.add_comm 2]
      rfl
    · rcases List.mem_cons.1 hp with rfl | hp
      · exact ⟨.row _ _ _, fndClosed _⟩
      rcases List.mem_cons.1 hp with rfl | hp
      · exact ⟨.var (hF.cl (Nat.le_refl _)), hF.clH⟩
      · obtain ⟨l, hl⟩ := nestA_row hp
        rw [hl]
        exact ⟨.row _ _ _, dataClosed _⟩
    · simp only [List.mem_cons, List.not_mem_nil, or_false] at hc
      rcases hc with rfl | rfl | rfl
      · exact .r _ _
      · exact .sl (by omega)
      · exact .sl (by omega)
    · refine vw_agg (.cons (.r _) (.cons (vw_nestA (b := 1) (base := 2) rfl hN fun q x hx => ?_) (.cons (Vw.full rfl (by simp)) .nil)))
      have : 2 ≤ q := by
        obtain ⟨i, a, _, h | h⟩ := nestA_get hx
        · omega
        · omega
      rw [hget_cons, if_neg (by omega), hget_cons, if_neg (by omega)]
      exact hx
def endMon (x : Mon) (n : Int) : Int := n + offs (x.list.map sz2) + 2 * x.found.length
def markMon (x : Mon) (n : Int) : Mon := ⟨x.records, markAs (x.list.map sz2) n, marks markFnd 2 x.found.length (n + offs (x.list.map sz2))⟩
theorem s_heldMonitor (x : Mon) (n : Int) (hn : 0 ≤ n ∧ n ≤ 1000) (hs : SzOk (x.list.map sz2)) (hf : x.found.length ≤ 1000000) : Spec Tryz.prog 13 0 [] [(markMon x n).ro, .i n] (fun r _ _ _ => r = .i (endMon x n)) := by
  have hb := hs.at (x.list.map sz2).length
  rw [List.take_length] at hb
  refine mk13 rfl fun c hP hm => ?_
  unfold pc13 Mon.ro markMon endMon
  simp only [hm,go_sem,↓reduceIte]
  refine call_pure (hP ▸ s_heldAssocS _ n hn hs) rfl rfl ?_
  simp only [hm,go_sem,↓reduceIte]
  refine ⟨fun h => absurd h (by omega), fun _ => ?_⟩
  refine call_pure (hP ▸ s_heldFindingS x.found.length _ (by omega) (by omega)) rfl rfl ?_
  simp only [hm,go_sem,↓reduceIte]
  exact fun h => absurd h (by omega)
theorem s_markAssocS_nil (n : Int) : Spec Tryz.prog 27 0 [] [.r .nil, .i n] (fun r _ _ _ => r = .i n) := by
  refine mk27 rfl fun c hP hm => ?_
  unfold pc27
  simp only [go_sem, ↓reduceIte]
  refine lp_wpc (α := Unit) (fun _ => ⟨[(0, .r .nil), (1, .i n), (5, .i 0)], [], 0, []⟩) (fun _ => True) (fun _ => 0) () trivial (Le.refl _) ?_
  intro i hi
  unfold pc27l0
  simp only [go_sem, ↓reduceIte]
theorem s_markAssocS_0 (n : Int) : Spec Tryz.prog 27 1 [(0, .row 14 [])] [.sl 0 0 0, .i n] (Named fun r B => r = .i n ∧ B = .row 14 []) := by
  refine Spec.named ?_
  refine mk27 rfl fun c hP hm => ?_
  unfold pc27
  simp only [go_sem, ↓reduceIte]
  refine run_exit 0 (fun t0 => t0 = ⟨[(1, .i n)], [(0, .row 14 [])], 1, []⟩) ?_ (fun t0 h => by rw [h]; simp only [go_sem, ↓reduceIte]; exact ⟨_, rfl, rfl, rfl⟩)
  refine lp_wpc (α := Unit) (fun _ => ⟨[(0, .sl 0 0 0), (1, .i n), (5, .i 0)], [(0, .row 14 [])], 1, []⟩) (fun _ => True) (fun _ => 0) () trivial (Le.refl _) ?_
  intro i hi
  unfold pc27l0
  simp only [go_sem, ↓reduceIte]
  first | done | exact ⟨_, rfl, le_ev [] (by simp only [hm,go_sem,↓reduceIte])⟩
end Go.Cap
namespace Go.Cap
attribute [local irreducible] Call Run Spec Le
theorem emb_self (H : List (Nat × Blk)) {hp : List (Nat × Blk)} (h : ∀ q b, hget H q = some b → hget hp q = some b) : Emb (0 + ·) H hp := fun q b hb => by
  have e : (fun q : Nat => 0 + q) = fun q => q := funext Nat.zero_add
  show hget hp (0 + q) = some (renB (fun q => 0 + q) b)
  rw [e, renB_self, Nat.zero_add]
  exact h q b hb
theorem emb_self' {H hp : List (Nat × Blk)} (h : Emb (0 + ·) H hp) : ∀ q b, hget H q = some b → hget hp q = some b := fun q b hb => by
  have := h q b hb
  have e : (fun q : Nat => 0 + q) = fun q => q := funext Nat.zero_add
  have this : hget hp (0 + q) = some (renB (fun q => 0 + q) b) := this
  rw [e, renB_self, Nat.zero_add] at this
  exact this
theorem ren0 (l : List AV) : l = l.map (renA (0 + ·)) := by
  have e : (fun q : Nat => 0 + q) = fun q => q := funext Nat.zero_add
  show l = l.map (renA (fun q => 0 + q))
  rw [e]
  conv => lhs; rw [← List.map_id l]
  exact List.map_congr_left fun c _ => (renA_self c).symm
structure MkQ (x : Mon) (n : Int) (r : AV) (nx : Nat) (r' : AV) (hp' : List (Nat × Blk)) (nx' : Nat) (gs' : List Nat) : Prop where
  res : r' = .i (endMon x n)
  own : OwnM (markMon x n) r hp' nx []
  nx : nx' = nx
  gs : gs' = []
set_option maxHeartbeats 1000000 in
theorem s_markMonitorO (x : Mon) {r : AV} {hp : List (Nat × Blk)} {nx : Nat} (hO : OwnM x r hp nx []) (n : Int) (hn : 0 ≤ n ∧ n ≤ 1000) (hs : SzB (x.list.map sz2)) (hf : x.found.length ≤ 2000000) :
    Spec Tryz.prog 12 nx hp [r, .i n] (MkQ x n r nx) := by
  have hb := hs.at (x.list.map sz2).length
  rw [List.take_length] at hb
  have hfl : (marks markFnd 2 x.found.length (n + offs (x.list.map sz2))).length = x.found.length := marks_len ..
  refine Spec.shrink ?_
  obtain ⟨hA, _⟩ := hO.all
  have fin : ∀ (r1 : AV) (hp1 hp2 : List (Nat × Blk)), r1 = .i (endMon x n) → OwnM (markMon x n) r hp2 nx [] → (∀ q b, hget hp2 q = some b → hget hp1 q = some b) → ShQ nx (MkQ x n r nx) r1 hp1 :=
    fun r1 hp1 hp2 h1 h2 h3 => ⟨hp2, ⟨h1, h2, rfl, rfl⟩, h2.all.1.ids, fun p hp => (h2.all.1.blk p hp).1, h3, by rw [h1]; exact .r _ _⟩
  rcases hO with ⟨h⟩
  rcases h with ⟨rfl, rfl, rfl, rfl, _⟩ | ⟨hl, rfl, rfl, rfl, _⟩ | ⟨hl, rfl, rfl, rfl, _⟩ | ⟨cs, hN, hF, rfl, rfl, rfl, _⟩
  · refine mk12 rfl fun c hP hm => ?_
    unfold pc12
    simp only [hm,go_sem,↓reduceIte]
    refine call_pure (hP ▸ s_markAssocS_nil n) rfl rfl ?_
    simp only [hm,go_sem,↓reduceIte]
    refine call_pure (hP ▸ s_markFindingS_nil n) rfl rfl ?_
    simp only [hm,go_sem,↓reduceIte]
    refine fin _ _ [] ?_ ⟨.inl ⟨rfl, rfl, rfl, rfl, rfl⟩⟩ (fun q b hb => by cases hb)
    simp [endMon, noMon, offs]
  · refine mk12 rfl fun c hP hm => ?_
    unfold pc12
    simp only [hm,go_sem,↓reduceIte]
    refine call_pure (hP ▸ s_markAssocS_nil n) rfl rfl ?_
    simp only [hm,go_sem,↓reduceIte]
    refine call_named 0 (hP ▸ s_markFindingS x.found n (by omega) (by omega)) rfl rfl rfl ?_ ?_
    · rintro r B ⟨rfl, rfl⟩; exact ⟨rfl, rfl⟩
    rintro r B ⟨rfl, rfl⟩
    simp only [hm,go_sem,↓reduceIte]
    have hfl' : (marks markFnd 2 x.found.length n).length = x.found.length := marks_len ..
    refine fin _ _ [(0, .row 2 ((marks markFnd 2 x.found.length n).map Fnd.row))] ?_ ⟨.inr (.inl ⟨?_, ?_, ?_, rfl, rfl⟩)⟩ (fun q b hb => ?_)
    · simp [endMon, hl, offs]
    · simp only [markMon, hl]; rfl
    · simp only [markMon, hl, List.map_nil, offs, Int.add_zero, hfl']
    · simp only [markMon, hl, List.map_nil, offs, Int.add_zero]
    · rw [hget_cons] at hb
      split at hb
      · rename_i e; subst e; cases hb; simp only [go_sem, ↓reduceIte]
      · cases hb
  · refine mk12 rfl fun c hP hm => ?_
    unfold pc12
    simp only [hm,go_sem,↓reduceIte]
    refine call_named 1 (hP ▸ s_markAssocS_0 n) rfl rfl rfl ?_ ?_
    · rintro r B ⟨rfl, rfl⟩; exact ⟨rfl, rfl⟩
    rintro r B ⟨rfl, rfl⟩
    simp only [hm,go_sem,↓reduceIte]
    refine call_named 0 (hP ▸ s_markFindingS x.found n (by omega) (by omega)) rfl rfl rfl ?_ ?_
    · rintro r B ⟨rfl, rfl⟩; exact ⟨rfl, rfl⟩
    rintro r B ⟨rfl, rfl⟩
    simp only [hm,go_sem,↓reduceIte]
    have hfl' : (marks markFnd 2 x.found.length n).length = x.found.length := marks_len ..
    refine fin _ _ [(0, .row 2 ((marks markFnd 2 x.found.length n).map Fnd.row)), (1, .row 14 [])] ?_ ⟨.inr (.inr (.inl ⟨?_, ?_, ?_, rfl, rfl⟩))⟩ (fun q b hb => ?_)
    · simp [endMon, hl, offs]
    · simp only [markMon, hl]; rfl
    · simp only [markMon, hl, List.map_nil, offs, Int.add_zero, hfl']
    · simp only [markMon, hl, List.map_nil, offs, Int.add_zero]
    · rw [hget_cons] at hb
      split at hb
      · rename_i e; subst e; cases hb; simp only [go_sem, ↓reduceIte]
      · rw [hget_cons] at hb
        split at hb
        · rename_i e; subst e; cases hb; simp only [go_sem, ↓reduceIte]
        · cases hb
  · refine mk12 rfl fun c hP hm => ?_
    unfold pc12
    obtain ⟨B, hB⟩ : ∃ B, 2 + tot x.list = B := ⟨_, rfl⟩
    have e0 : (B = 0) = False := by simp; omega
    have e1 : (0 = B) = False := by simp; omega
    rw [hB] at hm ⊢
    simp only [e0, e1, hm,go_sem,↓reduceIte]
    have hshape : ∀ L : List Assoc, tot L = tot x.list → ∀ cs' : List AV, NestA 2 L cs' → FormsA 2 (tot x.list) cs' → OwnM ⟨x.records, L, x.found⟩ (.agg [.i x.records, .sl 1 0 L.length, .sl 0 0 x.found.length]) ((0, .row 2 (x.found.map Fnd.row)) :: (1, .var cs') :: nestA 2 L) (2 + tot x.list) [] := fun L hL cs' h1 h2 => ⟨.inr (.inr (.inr ⟨cs', h1, hL ▸ h2, rfl, rfl, by rw [← hL], rfl⟩))⟩
    have hO0 := (hshape x.list rfl cs hN hF).all.1
    refine call_own 0 (2 + tot x.list) (hP ▸ s_markAssocS (x.found.map Fnd.row) x.list cs n hn hs hN hF) ⟨(dense hO0.ids).2.2.2, fun q b hb => (hO0.blk _ (hget_mem _ _ _ hb)).1⟩ (fun p hp => ((dense hO0.ids).2.1 p hp).2) (dense hO0.ids).2.2.1 (emb_self _ fun q b hb => ?_) (show 0 + (2 + tot x.list) ≤ B + 1 by omega) (ren0 _) ?_ ?_ ?_
    · have := (dense hO0.ids).2.2.2 q b hb
      show hget ((B, _) :: _) q = some b
      rw [hget_cons, if_neg (by omega)]
      exact hb
    · intro a ha
      simp only [List.mem_cons, List.not_mem_nil, or_false] at ha
      rcases ha with rfl | rfl
      · exact .sl (by omega)
      · exact .r _ _
    · rintro r hp nx gs ⟨cs', rfl, rfl, rfl, rfl, h1, h2⟩
      have h := (hshape _ (tot_mark x.list n) cs' h1 h2).all.1
      exact ⟨rfl, rfl, ⟨(dense h.ids).2.2.2, fun q b hb => (h.blk _ (hget_mem _ _ _ hb)).1⟩, .r _ _⟩
    · rintro r hp hp' ⟨cs', rfl, rfl, -, -, h1, h2⟩ hE hout
      have hB1 := hout B (.inr (by omega))
      have hE := emb_self' hE
      have h00 : hget hp' 0 = some (.row 2 (x.found.map Fnd.row)) := hE 0 _ rfl
      simp only [go_sem, ↓reduceIte] at hB1
      have hml : (markAs (x.list.map sz2) n).length = x.list.length := by rw [markAs_len, List.length_map]
      simp only [hB1, h00, e0, e1, hm,go_sem,↓reduceIte]
      refine call_named 0 (hP ▸ s_markFindingS x.found (n + offs (x.list.map sz2)) (by omega) (by omega)) h00 rfl rfl ?_ ?_
      · rintro r B ⟨rfl, rfl⟩; exact ⟨rfl, rfl⟩
      rintro r B' ⟨rfl, rfl⟩
      simp only [e0, e1, hm,go_sem,↓reduceIte]
      have hmo : OwnM (markMon x n) (.agg [.i x.records, .sl 1 0 x.list.length, .sl 0 0 x.found.length]) ((0, .row 2 ((marks markFnd 2 x.found.length (n + offs (x.list.map sz2))).map Fnd.row)) :: (1, .var cs') :: nestA 2 (markAs (x.list.map sz2) n)) (2 + tot x.list) [] :=
        ⟨.inr (.inr (.inr ⟨cs', h1, (tot_mark x.list n).symm ▸ h2, by simp only [markMon, hml, hfl], rfl, by simp only [markMon, tot_mark], rfl⟩))⟩
      refine hB ▸ fin _ _ _ rfl hmo fun q b hb => ?_
      rw [hget_cons] at hb ⊢
      split at hb
      · rename_i e; subst e; rw [if_pos rfl]; exact hb
      · rename_i e
        rw [if_neg e, hget_hdel, if_neg fun h => e h.symm]
        refine hE q b ?_
        rw [hget_cons, if_neg e]
        exact hb
end Go.Cap
namespace Go.Cap
attribute [local irreducible] Call Run Spec
structure HeldM (x : Mon) (lo n : Nat) (r : AV) (hp : List (Nat × Blk)) : Prop where
  h : ∃ r0 hp0, OwnM x r0 hp0 n [] ∧ Emb (lo + ·) hp0 hp ∧ r = renA (lo + ·) r0
theorem HeldM.vw {x : Mon} {lo n : Nat} {r : AV} {hp : List (Nat × Blk)} (h : HeldM x lo n r hp) : Vw hp r x.ro := by
  obtain ⟨r0, hp0, hO, hE, rfl⟩ := h
  exact hO.all.1.vw.ren hE
theorem HeldM.congr {x : Mon} {lo n : Nat} {r : AV} {hp hp' : List (Nat × Blk)} (h : HeldM x lo n r hp) (hq : ∀ q, lo ≤ q → q < lo + n → hget hp' q = hget hp q) : HeldM x lo n r hp' := by
  obtain ⟨r0, hp0, hO, hE, rfl⟩ := h
  refine ⟨r0, hp0, hO, fun q b hb => ?_, rfl⟩
  have := (dense hO.all.1.ids).2.2.2 q b hb
  rw [← hE q b hb]
  exact hq (lo + q) (by omega) (by omega)
theorem c_ownM {c : Cx} {s : St} {f : Nat} {as0 args : List AV} {K : AV → St → Prop} {x : Mon} (hs : Spec c.P f 0 [] as0 (OwnM x)) (ha : Vws s.hp args as0)
    (hK : ∀ lc fc hp' n, HeldM x s.nx n (.agg [.i x.records, lc, fc]) hp' → (∀ q, q < s.nx → hget hp' q = hget s.hp q) → K (.agg [.i x.records, lc, fc]) ⟨s.sl, hp', s.nx + n, s.gs⟩) : Call c f args s K :=
  call_clh hs ha.spec fun r hp nx gs hQ => by
    obtain ⟨hA, rfl⟩ := hQ.all
    refine ⟨⟨hA.clos, fun p hp => (hA.blk p hp).2⟩, ?_⟩
    obtain ⟨lc, fc, rfl⟩ := hA.res
    refine hK (renA (s.nx + ·) lc) (renA (s.nx + ·) fc) _ nx ⟨_, hp, hQ, fun q b hb => ?_, rfl⟩ fun q hq => ?_
    · rw [hget_append]
      have := hget_renH_inj (f := (s.nx + ·)) (fun a b e => by have e : s.nx + a = s.nx + b := e; omega) hp q
      rw [hb] at this
      rw [this]
      rfl
    · rw [hget_append]
      cases hx : hget (renH (s.nx + ·) hp) q with
      | none => rfl
      | some y =>
        obtain ⟨b0, x0, _, k2, _⟩ := hget_renH hx
        have k2 : s.nx + b0 = q := k2
        omega
theorem c_markMonitor {c : Cx} (hP : c.P = Tryz.prog) {s : St} {K : AV → St → Prop} {x : Mon} {lo nb : Nat} {r : AV} (hO : HeldM x lo nb r s.hp) (hlo : lo + nb ≤ s.nx) (n : Int) (hn : 0 ≤ n ∧ n ≤ 1000) (hs : SzB (x.list.map sz2)) (hf : x.found.length ≤ 2000000)
    (hK : ∀ hp', HeldM (markMon x n) lo nb r hp' → (∀ q, q < lo ∨ lo + nb ≤ q → hget hp' q = hget s.hp q) → K (.i (endMon x n)) ⟨s.sl, hp', s.nx, s.gs⟩) : Call c 12 [r, .i n] s K := by
  obtain ⟨r0, hp0, hO, hE, rfl⟩ := hO
  have hA := hO.all.1
  obtain ⟨d1, d2, d3, d4⟩ := dense hA.ids
  refine call_own lo nb (hP ▸ s_markMonitorO x hO n hn hs hf) ⟨d4, fun q b hb => (hA.blk _ (hget_mem _ _ _ hb)).1⟩ (fun p hp => (d2 p hp).2) d3 hE hlo rfl (fun a ha => ?_) ?_ ?_
  · simp only [List.mem_cons, List.not_mem_nil, or_false] at ha
    rcases ha with rfl | rfl
    · exact hA.cl
    · exact .r _ _
  · rintro r hp nx gs ⟨rfl, h2, rfl, rfl⟩
    have h := h2.all.1
    exact ⟨rfl, rfl, ⟨(dense h.ids).2.2.2, fun q b hb => (h.blk _ (hget_mem _ _ _ hb)).1⟩, .r _ _⟩
  · rintro r hp hp' ⟨rfl, h2, _, _⟩ hE' hout
    exact hK hp' ⟨r0, hp, h2, hE', rfl⟩ hout
end Go.Cap
namespace Go.Cap
attribute [local irreducible] Call Run Spec Le
theorem getD_at {s : List UInt8} {i : Nat} (h : i < s.length) : s.getD i 0 = s[i] := by
  rw [List.getD_eq_getElem?_getD, List.getElem?_eq_getElem h]; rfl
theorem reput {s : List UInt8} {i : Nat} (h1 : i + 4 ≤ s.length) (h2 : 4 ≤ at2 s (i + 2)) (h4 : i + (at2 s (i + 2)).toNat ≤ s.length) :
    chunkPut (chunkAt s i) = (s.drop i).take (at2 s (i + 2)).toNat ++ List.replicate (padN ((at2 s (i + 2)).toNat - 4)) 0 := by
  have hw := word_at2 s (i + 2)
  obtain ⟨n, hn⟩ : ∃ n : Nat, at2 s (i + 2) = n := ⟨(at2 s (i + 2)).toNat, by omega⟩
  rw [hn] at hw h2 h4 ⊢
  rw [Int.toNat_natCast] at h4 ⊢
  have hbl : (chunkAt s i).body.length = n - 4 := by
    show ((s.drop (i + 4)).take ((at2 s (i + 2)).toNat - 4)).length = _
    rw [hn, List.length_take, List.length_drop, Int.toNat_natCast]; omega
  unfold chunkPut
  rw [hbl, show ((4 + (n - 4) : Nat) : Int) = (n : Int) by omega, hw]
  show [u8 (byteAt s i), u8 (byteAt s (i + 1))] ++ _ ++ (s.drop (i + 4)).take ((at2 s (i + 2)).toNat - 4) ++ _ = _
  rw [hn, Int.toNat_natCast]
  congr 1
  unfold byteAt
  rw [u8_of, u8_of, getD_at (show i < s.length by omega), getD_at (show i + 1 < s.length by omega), getD_at (show i + 2 < s.length by omega), getD_at (show i + 2 + 1 < s.length by omega)]
  obtain ⟨m, rfl⟩ : ∃ m, n = m + 4 := ⟨n - 4, by omega⟩
  rw [List.drop_eq_getElem_cons (show i < s.length by omega), List.drop_eq_getElem_cons (show i + 1 < s.length by omega), List.drop_eq_getElem_cons (show i + 1 + 1 < s.length by omega), List.drop_eq_getElem_cons (show i + 1 + 1 + 1 < s.length by omega)]
  rw [show m + 4 - 4 = m by omega]
  rfl
theorem reput_len {s : List UInt8} {i : Nat} (h1 : i + 4 ≤ s.length) (h2 : 4 ≤ at2 s (i + 2)) (h4 : i + (at2 s (i + 2)).toNat ≤ s.length) : i + (chunkPut (chunkAt s i)).length = endAt s i := by
  rw [reput h1 h2 h4, List.length_append, List.length_replicate, List.length_take, List.length_drop]
  unfold padN endAt; omega
theorem reput_iff {s : List UInt8} {i : Nat} (h1 : i + 4 ≤ s.length) (h2 : 4 ≤ at2 s (i + 2)) (h4 : i + (at2 s (i + 2)).toNat ≤ s.length) (h5 : endAt s i ≤ s.length) :
    (s.take (endAt s i)).drop i = chunkPut (chunkAt s i) ↔ ((s.take (endAt s i)).drop (i + (at2 s (i + 2)).toNat)).all (· == 0) = true := by
  have hl := reput_len h1 h2 h4
  rw [reput h1 h2 h4] at hl ⊢
  generalize (at2 s (i + 2)).toNat = n at *
  generalize endAt s i = e at *
  generalize padN (n - 4) = k at *
  rw [List.length_append, List.length_replicate, List.length_take, List.length_drop] at hl
  have hk : e = i + n + k := by omega
  have g1 : ((s.take e).drop i).take n = (s.drop i).take n := by rw [List.drop_take, List.take_take, Nat.min_eq_left (by omega)]
  have g2 : ((s.take e).drop i).drop n = (s.take e).drop (i + n) := by rw [List.drop_drop]
  have hsp : (s.take e).drop i = (s.drop i).take n ++ (s.take e).drop (i + n) := by rw [← g1, ← g2, List.take_append_drop]
  have hdl : ((s.take e).drop (i + n)).length = k := by rw [List.length_drop, List.length_take]; omega
  rw [hsp, List.append_cancel_left_eq]
  generalize (s.take e).drop (i + n) = D at hdl
  constructor
  · rintro rfl
    simp
  · intro h
    rw [List.all_eq_true] at h
    exact List.eq_replicate_iff.2 ⟨hdl, fun b hb => by simpa using h b hb⟩
theorem s_specChunkGet (s : List UInt8) (i : Nat) (hs : s.length ≤ 2000000) (hi : i ≤ s.length) : Spec Tryz.prog 76 0 [] [.st s, .i i] (Plain fun r => r = chunkRes s i) := by
  refine Spec.plainQ ?_ (by rintro r rfl; unfold chunkRes; split <;> rfl)
  refine mr76 rfl fun c hP hm => ?_
  unfold pc76
  have w1 : IntKind.i64.wrap ((s.length : Int) - 4) = (s.length : Int) - 4 := wrap64 (by omega) (by omega)
  have w2 : IntKind.i64.wrap ((i : Int) + 2) = (i : Int) + 2 := wrap64 (by omega) (by omega)
  have w3 : IntKind.i64.wrap ((i : Int) + 1) = (i : Int) + 1 := wrap64 (by omega) (by omega)
  have w4 : IntKind.i64.wrap ((i : Int) + 4) = (i : Int) + 4 := wrap64 (by omega) (by omega)
  have e2 : ((i : Int) + 2).toNat = i + 2 := by omega
  have hn := at2_range s (i + 2)
  refine run_seq (run_wpc _ _ _ _ _ ?_)
  simp only [hm,go_sem,↓reduceIte]
  refine run_seq (run_wpc _ _ _ _ _ ?_)
  simp only [w1, hm,go_sem,↓reduceIte]
  repeat' first | refine And.intro ?_ ?_ | intro _
  all_goals first
    | omega
    | exact chunkRes_no (chunkOk_no fun h1 h2 h3 h4 h5 => by omega)
    | skip
  refine run_seq (run_wpc _ _ _ _ _ ?_)
  simp only [w2, hm,go_sem,↓reduceIte]
  refine c_l1At hP (by omega) (by omega) ?_
  rw [e2]
  simp only [hm,go_sem,↓reduceIte]
  have hend : i + (at2 s (i + 2)).toNat ≤ endAt s i ∧ endAt s i ≤ i + (at2 s (i + 2)).toNat + 3 := by unfold endAt; omega
  obtain ⟨n, hnn⟩ : ∃ n, at2 s (i + 2) = n := ⟨_, rfl⟩
  rw [hnn] at hn hend
  rw [hnn]
  have w5 : IntKind.i64.wrap ((i : Int) + n) = (i : Int) + n := wrap64 (by omega) (by omega)
  refine run_seq (run_wpc _ _ _ _ _ ?_)
  simp only [w5, hm,go_sem,↓reduceIte]
  refine c_l6In hP ?_
  simp only [w5, inB_dec, hm,go_sem,↓reduceIte]
  repeat' first | refine And.intro ?_ ?_ | intro _
  all_goals first
    | omega
    | exact chunkRes_no (chunkOk_no fun h1 h2 h3 h4 h5 => by omega)
    | skip
  refine run_seq (run_wpc _ _ _ _ _ ?_)
  simp only [w3, w4, w5, hm,go_sem,↓reduceIte]
  refine ⟨⟨by omega, by omega⟩, ⟨by omega, by omega⟩, ⟨by omega, by omega, by omega⟩, ⟨⟨by omega, by omega⟩, ⟨by omega, by omega⟩, by omega, by omega, by omega⟩, ?_⟩
  have hb1 := byte_range s (i : Int).toNat
  have hb2 := byte_range s ((i : Int) + 1).toNat
  rw [wrap64 (x := ((s.getD (i : Int).toNat 0).toNat : Int)) (by omega) (by omega), wrap64 (x := ((s.getD ((i : Int) + 1).toNat 0).toNat : Int)) (by omega) (by omega)]
  have hin : 4 ≤ n ∧ n ≤ 64 ∧ i + n.toNat ≤ s.length := ⟨by omega, by omega, by omega⟩
  have h4 : i + 4 ≤ s.length := by omega
  have hx : ∃ x : Chunk, x = ⟨((s.getD (i : Int).toNat 0).toNat : Int), ((s.getD ((i : Int) + 1).toNat 0).toNat : Int), List.drop ((i : Int) + 4).toNat (List.take ((i : Int) + n).toNat s)⟩ := ⟨_, rfl⟩
  obtain ⟨x, hx⟩ := hx
  have hxa : x = chunkAt s i := by
    rw [hx]
    unfold chunkAt byteAt
    rw [hnn, List.drop_take, show ((i : Int)).toNat = i by omega, show ((i : Int) + 1).toNat = i + 1 by omega, show ((i : Int) + 4).toNat = i + 4 by omega, show ((i : Int) + n).toNat - (i + 4) = n.toNat - 4 by omega]
  have hcx : chunkB x = true := by
    rw [hx]
    simp only [chunkB, inB, Bool.and_eq_true, decide_eq_true_eq, List.length_drop, List.length_take]
    omega
  have hk1 : ((s.getD (i : Int).toNat 0).toNat : Int) = x.kind := by rw [hx]
  have hk2 : ((s.getD ((i : Int) + 1).toNat 0).toNat : Int) = x.flags := by rw [hx]
  have hk3 : List.drop ((i : Int) + 4).toNat (List.take ((i : Int) + n).toNat s) = x.body := by rw [hx]
  rw [hk1, hk2, hk3]
  clear hx hk1 hk2 hk3
  have hput := s_l11Put x hcx
  have hpl := reput_len h4 (by rw [hnn]; omega) (by rw [hnn]; omega)
  have hri := reput_iff h4 (by rw [hnn]; omega) (by rw [hnn]; omega)
  have hyes : endAt s i ≤ s.length → List.drop i (List.take (endAt s i) s) = chunkPut x → AV.tup [x.av, .i (endAt s i), .bo true] = chunkRes s i := fun g1 g2 => by
    unfold chunkRes
    rw [chunkOk_yes h4 (by rw [hnn]; omega) (by rw [hnn]; omega) g1 ((hri g1).1 (by rw [← hxa]; exact g2)), if_pos rfl, hxa]
  have hnot : (endAt s i ≤ s.length → List.drop i (List.take (endAt s i) s) ≠ chunkPut x) → AV.tup [.agg [.i 0, .i 0, .st []], .i 0, .bo false] = chunkRes s i := fun g =>
    chunkRes_no (chunkOk_no fun _ _ _ g4 g5 => g g4 (by rw [hxa]; exact (hri g4).2 g5))
  rw [← hxa] at hpl
  unfold Chunk.av at hput hyes
  generalize chunkPut x = T at *
  have w6 : IntKind.i64.wrap ((i : Int) + (T.length : Int)) = ((endAt s i : Nat) : Int) := by rw [wrap64 (by omega) (by omega)]; omega
  refine run_seq (run_wpc _ _ _ _ _ ?_)
  simp only [hm,go_sem,↓reduceIte]
  refine call_pure (hP ▸ hput) rfl rfl ?_
  simp only [hm,go_sem,↓reduceIte]
  refine run_wpc _ _ _ _ _ ?_
  simp only [w6, Int.toNat_natCast, hm,go_sem,↓reduceIte]
  repeat' first | refine And.intro ?_ ?_ | intro _
  all_goals first
    | omega
    | exact hnot fun g => by omega
    | exact hyes (by omega) (by assumption)
    | exact hnot fun _ => by assumption
theorem s_specPacketGet (s : List UInt8) (hs : s.length ≤ 2000000) : Spec Tryz.prog 44 0 [] [.st s] (Plain fun r => r = .tup [(packGet s).1.ro, .i (packGet s).2]) := by
  refine Spec.le (Q := fun r hp _ _ => (∃ n : Int, r = .tup [.agg [.i 0, .i 0, .i 0, .r .nil], .i n] ∧ packGet s = (noPack, n)) ∨ ∃ (p : Packet) (b : Nat), packGet s = (p, 0) ∧ r = .tup [.agg [.i p.fr, .i p.to, .i p.tag, .sl b 0 p.chunks.length], .i 0] ∧ hget hp b = some (.row 3 (p.chunks.map Chunk.row))) ?_ ?_
  · refine mr44 rfl fun c hP hm => ?_
    unfold pc44
    have r4 := at2_range s 4
    have r6 := at2_range s 6
    have r8 := at2_range s 8
    have r10 := at2_range s 10
    have hw8 : IntKind.i64.wrap (IntKind.i64.wrap (65536 * at2 s 8) + at2 s 10) = at4 s 8 := by rw [wrap64 (x := 65536 * at2 s 8) (by omega) (by omega), wrap64 (by omega) (by omega)]; rfl
    have hw4 : IntKind.i64.wrap (IntKind.i64.wrap (65536 * at2 s 4) + at2 s 6) = at4 s 4 := by rw [wrap64 (x := 65536 * at2 s 4) (by omega) (by omega), wrap64 (by omega) (by omega)]; rfl
    refine run_seq (run_wpc _ _ _ _ _ ?_)
    simp only [hm,go_sem,↓reduceIte]
    refine run_seq (run_wpc _ _ _ _ _ ?_)
    simp only [hm,go_sem,↓reduceIte]
    repeat' first | refine And.intro ?_ ?_ | intro _
    all_goals first
      | exact .inl ⟨1, rfl, by unfold packGet; rw [if_pos (by omega)]⟩
      | skip
    refine run_seq (run_wpc _ _ _ _ _ ?_)
    simp only [hm,go_sem,↓reduceIte]
    repeat' first
      | refine And.intro ?_ ?_
      | intro _
      | (refine c_l1At hP (by omega) (by omega) ?_; simp only [hm,go_sem,↓reduceIte])
      | (refine call_pure (hP ▸ s_l13Sum s (by omega)) rfl rfl ?_; simp only [hm,go_sem,↓reduceIte])
    all_goals first
      | exact .inl ⟨2, rfl, by unfold packGet; rw [if_neg (by omega), if_pos (by rw [← hw8]; assumption)]⟩
      | skip
    refine run_seq (run_wpc _ _ _ _ _ ?_)
    simp only [hm,go_sem,↓reduceIte]
    repeat' first
      | refine And.intro ?_ ?_
      | intro _
      | (refine c_l1At hP (by omega) (by omega) ?_; simp only [hm,go_sem,↓reduceIte])
    refine run_seq (run_wpc _ _ _ _ _ ?_)
    simp only [hm,go_sem,↓reduceIte]
    refine run_seq (run_wpc _ _ _ _ _ ?_)
    simp only [hm,go_sem,↓reduceIte]
    rename_i h12 hsum
    rw [hw4]
    have hnl : ¬ s.length < 12 := by omega
    have hns : ¬ at4 s 8 ≠ sumOf (s.take 8 ++ [0, 0, 0, 0] ++ s.drop 12) := fun h => h (by rw [← hw8]; exact hsum)
    refine run_exit 0 (fun t0 => ∃ cs : List Chunk, cs.length ≤ s.length ∧ chunksGet s.length s 12 = some cs ∧ t0 = ⟨[(2, .ptr 0 0 0), (4, .ptr 2 0 0)], [(0, .var [.i 0, .i 0, .i 0, .r .nil]), (2, .var [.i (at2 s 0), .i (at2 s 2), .i (at4 s 4), .sl 1 0 cs.length]), (1, .row 3 (cs.map Chunk.row))], 3, []⟩) ?_ ?_
    · refine lp_wpc (α := Nat × List Chunk) (fun y => ⟨[(0, .st s), (2, .ptr 0 0 0), (4, .ptr 2 0 0), (5, .i y.1)], [(0, .var [.i 0, .i 0, .i 0, .r .nil]), (2, .var [.i (at2 s 0), .i (at2 s 2), .i (at4 s 4), .sl 1 0 y.2.length]), (1, .row 3 (y.2.map Chunk.row))], 3, []⟩)
        (fun y => pgInv s y.1 y.2) (fun y => s.length - y.1) (12, []) ⟨by omega, Nat.zero_le _, s.length, by omega, by cases chunksGet s.length s 12 <;> rfl⟩ (by (refine le_ev [] ?_; simp only [hm,go_sem,↓reduceIte]; first | done | rfl | exact ⟨rfl, rfl⟩)) ?_
      rintro ⟨pos, cs⟩ hI
      simp only at hI
      unfold pc44l0
      have hrt : List.take cs.length (cs.map Chunk.row) = cs.map Chunk.row := List.take_of_length_le (by simp)
      have hp1 := hI.1
      have hp2 := hI.2.1
      simp only [hm,go_sem,↓reduceIte]
      refine ⟨fun hlt => ?_, fun hge => ?_⟩
      · refine call_dataP (hP ▸ s_specChunkGet s pos hs hp1) ?_ rfl ?_
        · unfold chunkRes; split <;> rfl
        cases hok : chunkOk s pos
        · have hcr : chunkRes s pos = .tup [.agg [.i 0, .i 0, .st []], .i 0, .bo false] := by unfold chunkRes; rw [hok]; rfl
          rw [hcr]
          simp only [hm,go_sem,↓reduceIte]
          refine .inl ⟨3, rfl, ?_⟩
          unfold packGet
          rw [if_neg hnl, if_neg hns, pgInv_bad hI (by omega) hok]
        · have hcr : chunkRes s pos = .tup [(chunkAt s pos).av, .i (endAt s pos), .bo true] := by unfold chunkRes; rw [hok]; rfl
          obtain ⟨i1, i2⟩ := pgInv_step hI (by omega) hok
          rw [hcr]
          generalize chunkAt s pos = k at i1
          unfold Chunk.av
          simp only [hrt, hm,go_sem,↓reduceIte]
          repeat' first | refine And.intro ?_ ?_ | intro _
          all_goals first
            | omega
            | (refine ⟨(endAt s pos, cs ++ [k]), i1, by simp only; omega, ?_⟩
               simp only [List.map_append, List.length_append, List.length_cons, List.length_nil, List.map_cons, List.map_nil, Chunk.row]
               (refine le_ev [] ?_; simp only [hm,go_sem,↓reduceIte]; first | done | rfl | exact ⟨rfl, rfl⟩))
      · refine ⟨_, ⟨cs, by omega, pgInv_end hI (by omega), rfl⟩, ?_⟩
        (refine le_ev [] ?_; simp only [hm,go_sem,↓reduceIte]; first | done | rfl | exact ⟨rfl, rfl⟩)
    rintro t0 ⟨cs, hcs, hch, rfl⟩
    rw [if_pos rfl]
    have hpv := s_specPacketValid ⟨at2 s 0, at2 s 2, at4 s 4, cs⟩ (by simp only; omega)
    have hpk : packGet s = if packB (packOf s cs) then (packOf s cs, 0) else (noPack, 3) := by
      unfold packGet
      rw [if_neg hnl, if_neg hns, hch]
    unfold Packet.ro at hpv
    refine run_wpc _ _ _ _ _ ?_
    simp only [hm,go_sem,↓reduceIte]
    refine call_flat (hP ▸ hpv) rfl (.cons (vw_agg (.cons (vw_self _ _ rfl) (.cons (vw_self _ _ rfl) (.cons (vw_self _ _ rfl) (.cons (Vw.full rfl (by simp)) .nil))))) .nil) ?_
    simp only [hm,go_sem,↓reduceIte]
    refine ⟨fun hv => ?_, fun hv => ?_⟩
    · refine .inl ⟨3, rfl, ?_⟩
      rw [hpk, if_neg (by unfold packOf; rw [hv]; decide)]
    · refine .inr ⟨packOf s cs, 1, ?_, rfl, rfl⟩
      rw [hpk, if_pos (show packB (packOf s cs) = true from hv)]
  · rintro r hp nx gs h
    rcases h with ⟨n, rfl, e⟩ | ⟨p, b, e, rfl, hb⟩
    · refine ⟨_, [], 0, [], ⟨rfl, rfl, rfl, rfl⟩, fun c hc => ?_⟩
      rw [e]
      refine Le.trans (t := ⟨[(0, .tup [.agg [.i 0, .i 0, .i 0, .r .nil], .i n])], [], 0, []⟩) (le_ev [] (by simp only [hc,go_sem,↓reduceIte])) le_denil
    · refine ⟨_, [], 0, [], ⟨rfl, rfl, rfl, rfl⟩, fun c hc => ?_⟩
      rw [e]
      refine Le.trans (t := ⟨[(0, .tup [.agg [.i p.fr, .i p.to, .i p.tag, .sl 0 0 p.chunks.length], .i 0])], [(0, .row 3 (p.chunks.map Chunk.row))], 1, []⟩) (le_ev [(0, b)] (by simp only [hc, go_sem, ↓reduceIte, hb])) ?_
      refine Le.trans (le_frz 0 rfl (by simp only [List.length_map,go_sem,↓reduceIte]) (by simp only [go_sem, ↓reduceIte])) ?_
      simp only [take_map_len, List.drop_zero,go_sem,↓reduceIte]
      exact le_ev [] (by simp only [hc, Packet.ro,go_sem,↓reduceIte])
theorem c_l32Copy {c : Cx} (hP : c.P = Tryz.prog) {m : Mon} (hl : m.list.length ≤ 1000) (hf : m.found.length ≤ 1000000) (ha : ∀ a ∈ m.list, AW a) {s : St} {K : AV → St → Prop}
    (hK : K (.agg [.i m.records, .sl s.nx 0 m.list.length, .sl (s.nx + 1) 0 m.found.length]) ⟨s.sl, (s.nx, .row 14 (m.list.map Assoc.row)) :: (s.nx + 1, .row 2 (m.found.map Fnd.row)) :: s.hp, s.nx + 2, s.gs⟩) : Call c 43 [m.ro] s K := by
  refine call_spec [] (hP ▸ s_l32Copy m hl hf ha) (by simp) (by simp) (by simp) rfl fun r hp' nx' gs' h => ?_
  obtain ⟨rfl, rfl, rfl, rfl⟩ := h
  simpa [renA, renA.renL, renH, renB, idf, hdels, Mon.own] using hK
theorem MW.no (n : Nat) : MW n noMon := ⟨by decide, fun a ha => (List.not_mem_nil ha).elim, Nat.zero_le _⟩
theorem s_l32BeginX (m : Mon) (p : Packet) (n : Nat) (hn : n ≤ 100000) (hw : MW n m) (hr : 0 ≤ m.records ∧ m.records ≤ 61) (hp : packB p = true) :
    Spec Tryz.prog 49 2 [(0, .row 14 (m.list.map Assoc.row)), (1, .row 2 (m.found.map Fnd.row))] [m.own, p.ro] (fun r hp nx gs => r = (beginMon m p).ro ∧ hp = [] ∧ nx = 2 ∧ gs = []) := by
  have hpb := hp
  simp only [packB, Bool.and_eq_true, decide_eq_true_eq, List.all_eq_true, chunkB] at hpb
  have hcl : p.chunks.length ≤ 4 ∧ 1 ≤ p.chunks.length := by omega
  have has := s_specAssocStep ⟨p.fr, p.to, 0, false, noSide, noSide⟩ p ⟨Nat.zero_le _, fun d hd => by cases hd⟩ ⟨Nat.zero_le _, fun d hd => by cases hd⟩ (by omega)
  have hAWs := assocStep_AW ⟨p.fr, p.to, 0, false, noSide, noSide⟩ p
  have hlen := assocStep_le ⟨p.fr, p.to, 0, false, noSide, noSide⟩ p
  have hbm : beginMon m p = (if kind0 p ≠ 1 then note m [104] else if !(assocStep ⟨p.fr, p.to, 0, false, noSide, noSide⟩ p).2.isEmpty then note m (assocStep ⟨p.fr, p.to, 0, false, noSide, noSide⟩ p).2 else if 3 ≤ m.list.length then note m [105] else { m with list := m.list ++ [(assocStep ⟨p.fr, p.to, 0, false, noSide, noSide⟩ p).1] }) := rfl
  generalize assocStep ⟨p.fr, p.to, 0, false, noSide, noSide⟩ p = x at *
  obtain ⟨o, rules⟩ := x
  simp only at hAWs hlen has hbm
  obtain ⟨m1, m2, m3⟩ := hw
  obtain ⟨k0, hk0⟩ : ∃ k0, p.chunks[0]'(by omega) = k0 := ⟨_, rfl⟩
  have hkd : kind0 p = k0.kind := by rw [← hk0]; unfold kind0; simp [List.getD_eq_getElem?_getD, show 0 < p.chunks.length by omega]
  refine Spec.le (Q := fun r hp _ _ => ∃ m' : Mon, m' = beginMon m p ∧ ((∃ b1 b2, b1 ≠ b2 ∧ r = .agg [.i m'.records, .sl b1 0 m'.list.length, .sl b2 0 m'.found.length] ∧ hget hp b1 = some (.row 14 (m'.list.map Assoc.row)) ∧ hget hp b2 = some (.row 2 (m'.found.map Fnd.row)))
      ∨ (∃ b2, r = .agg [.i m'.records, .r (.ro none (m'.list.map Assoc.row)), .sl b2 0 m'.found.length] ∧ hget hp b2 = some (.row 2 (m'.found.map Fnd.row))))) ?_ ?_
  · refine mr49 rfl fun c hP hm => ?_
    unfold pc49 Mon.own Packet.ro
    have hu : (Assoc.mk p.fr p.to 0 false noSide noSide).ro = .agg (Assoc.mk p.fr p.to 0 false noSide noSide).cellsA := rfl
    have hu2 : o.ro = .agg o.cellsA := rfl
    unfold Packet.ro at has
    rw [hu, hu2] at has
    unfold Assoc.cellsA noSide at has
    simp only [List.map_nil] at has
    refine run_seq (run_wpc _ _ _ _ _ ?_)
    simp only [hm,go_sem,↓reduceIte]
    refine run_seq (run_wpc _ _ _ _ _ ?_)
    simp only [hm,go_sem,↓reduceIte]
    refine call_denil ?_
    simp only [List.map_cons, List.map_nil, hm,go_sem,↓reduceIte]
    refine call_dataP (hP ▸ has) rfl rfl ?_
    simp only [hm,go_sem,↓reduceIte]
    have hg0 : (p.chunks.map Chunk.row).getD 0 [] = (p.chunks[0]'(by omega)).row := getD_map (f := Chunk.row) (i := 0) (by omega)
    rw [hk0] at hg0
    have hre : m.records = m.records - 1 + 1 := by omega
    refine run_wpc _ _ _ _ _ ?_
    simp only [hg0, Chunk.row, List.length_map, hm,go_sem,↓reduceIte]
    refine ⟨by omega, ?_⟩
    refine ⟨fun hk => ?_, fun hk => ?_⟩
    · refine call_frz 0 rfl rfl (by simp only [List.length_map,go_sem,↓reduceIte]) ?_
      simp only [take_map_len, List.drop_zero, hm,go_sem,↓reduceIte]
      refine c_l32Note hP (by omega) (by omega) 1 rfl ?_
      simp only [hm,go_sem,↓reduceIte]
      exact ⟨{ m with found := m.found ++ [⟨m.records - 1, 104⟩] }, by rw [hbm, hkd, if_pos hk]; rfl, .inr ⟨6, by simp, rfl⟩⟩
    intro _
    refine ⟨fun hkr => ?_, fun hkr => ?_⟩
    · refine run_frz 0 rfl (by first | (simp only [hm, List.length_map,go_sem,↓reduceIte]; done) | (simp only [hm, List.length_map,go_sem,↓reduceIte]; omega)) (by first | (simp only [hm, List.length_map,go_sem,↓reduceIte]; done) | (simp only [hm, List.length_map,go_sem,↓reduceIte]; omega)) ?_; simp only [hm, take_map_len, List.drop_zero,go_sem,↓reduceIte]
      refine run_exit 1 (fun t0 => ∃ F : List Fnd, F = m.found ++ rules.map (fun c => (⟨m.records - 1, c⟩ : Fnd)) ∧ t0 = ⟨[(2, .ptr 2 0 0), (4, .ptr 4 0 0)], [(2, .var [.i m.records, .r (.ro none (m.list.map Assoc.row)), .sl 5 0 F.length]), (4, .var [.i 0, .r .nil, .r .nil]), (5, .row 2 (F.map Fnd.row))], 6, []⟩) ?_ ?_
      · refine lp_wpc (α := Nat × List Fnd) (fun y => ⟨[(2, .ptr 2 0 0), (4, .ptr 4 0 0), (6, .r (.ro none (rules.map intRow))), (7, .i y.1)], [(2, .var [.i m.records, .r (.ro none (m.list.map Assoc.row)), .sl 5 0 y.2.length]), (4, .var [.i 0, .r .nil, .r .nil]), (5, .row 2 (y.2.map Fnd.row))], 6, []⟩)
          (fun y => y.1 ≤ rules.length ∧ y.2 = m.found ++ (rules.take y.1).map (fun c => (⟨m.records - 1, c⟩ : Fnd))) (fun y => rules.length - y.1) (0, m.found) ⟨Nat.zero_le _, by simp⟩ (by (refine le_ev [(5, 1)] ?_; simp only [hm,go_sem,↓reduceIte]; first | done | rfl | exact ⟨rfl, rfl⟩)) ?_
        rintro ⟨i, F⟩ ⟨h1, h2⟩
        simp only at h1 h2
        have hFl : F.length ≤ n + 12 := by rw [h2, List.length_append, List.length_map, List.length_take]; omega
        unfold pc49l0
        rcases Nat.lt_or_ge i rules.length with hil | hil
        · have hw1 : IntKind.i64.wrap ((i : Int) + 1) = ((i + 1 : Nat) : Int) := by rw [wrap64 (by omega) (by omega)]; omega
          have hg := getD_map (f := intRow) hil
          simp only [hw1, Int.toNat_natCast, hg, intRow, hm,go_sem,↓reduceIte]
          repeat' first
            | refine And.intro ?_ ?_
            | intro _
            | (refine c_l32Note hP (by omega) (by omega) 5 rfl ?_; simp only [hw1, Int.toNat_natCast, hg, intRow, hm,go_sem,↓reduceIte])
          all_goals first
            | omega
            | (refine ⟨(i + 1, F ++ [⟨m.records - 1, rules[i]⟩]), ⟨hil, by rw [take_get hil, List.map_append, ← List.append_assoc, ← h2]; rfl⟩, by simp only; omega, ?_⟩
               simp only [List.length_append, List.length_cons, List.length_nil]
               (refine le_ev [(5, 6)] ?_; simp only [hm,go_sem,↓reduceIte]; first | done | rfl | exact ⟨rfl, rfl⟩))
        · have : i = rules.length := by omega
          subst this
          simp only [hm,go_sem,↓reduceIte]
          repeat' first | refine And.intro ?_ ?_ | intro _
          all_goals first
            | omega
            | (refine ⟨_, ⟨F, by rw [h2, List.take_length], rfl⟩, ?_⟩; (refine le_ev [] ?_; simp only [hm,go_sem,↓reduceIte]; first | done | rfl | exact ⟨rfl, rfl⟩))
      rintro t0 ⟨F, hF, rfl⟩
      rw [if_pos rfl]
      simp only [hm,go_sem,↓reduceIte]
      have hrn : rules.isEmpty = false := by
        cases rules with
        | nil => exact absurd hkr (by simp)
        | cons => rfl
      exact ⟨{ m with found := F }, by rw [hbm, hkd, if_neg (by omega), hrn, if_pos (by decide), hF]; rfl, .inr ⟨5, rfl, rfl⟩⟩
    have hrn : rules.isEmpty = true := by
      cases rules with
      | nil => rfl
      | cons => simp only [List.length_cons] at hkr; omega
    intro _
    refine ⟨fun hk3 => ?_, fun hk3 => ?_⟩
    · refine call_frz 0 rfl rfl (by simp only [List.length_map,go_sem,↓reduceIte]) ?_
      simp only [take_map_len, List.drop_zero, hm,go_sem,↓reduceIte]
      refine c_l32Note hP (by omega) (by omega) 1 rfl ?_
      simp only [hm,go_sem,↓reduceIte]
      exact ⟨{ m with found := m.found ++ [⟨m.records - 1, 105⟩] }, by rw [hbm, hkd, if_neg (by omega), if_neg (by rw [hrn]; decide), if_pos (by omega)]; rfl, .inr ⟨6, by simp, rfl⟩⟩
    · have hrt : List.take m.list.length (m.list.map Assoc.row) = m.list.map Assoc.row := List.take_of_length_le (by simp)
      simp only [hrt, hm,go_sem,↓reduceIte]
      repeat' first | refine And.intro ?_ ?_ | intro _
      all_goals first
        | omega
        | exact ⟨{ m with list := m.list ++ [o] }, by rw [hbm, hkd, if_neg (by omega), if_neg (by rw [hrn]; decide), if_neg (by omega)], .inl ⟨7, 1, by decide, by simp, by simp [Assoc.row, Assoc.cellsX], by simp⟩⟩
  · rintro r hp nx gs ⟨m', hw, h⟩
    refine ⟨m'.ro, [], 2, [], ⟨by rw [hw], rfl, rfl, rfl⟩, fun c hc => ?_⟩
    rcases h with ⟨b1, b2, hne, rfl, h1, h2⟩ | ⟨b2, rfl, h2⟩
    · refine Le.trans (t := ⟨[(0, .agg [.i m'.records, .sl 2 0 m'.list.length, .sl 3 0 m'.found.length])], [(2, .row 14 (m'.list.map Assoc.row)), (3, .row 2 (m'.found.map Fnd.row))], 4, []⟩) (le_ev [(2, b1), (3, b2)] ?_) ?_
      · simp only [hc, go_sem, ↓reduceIte, h1, h2, List.mem_cons, List.not_mem_nil, or_false, not_false_eq_true, and_self]
        exact fun e => hne e.symm
      refine Le.trans (le_frz 2 rfl (by simp only [List.length_map,go_sem,↓reduceIte]) (by simp only [go_sem, ↓reduceIte])) ?_
      simp only [take_map_len, List.drop_zero,go_sem,↓reduceIte]
      refine Le.trans (le_frz 3 rfl (by simp only [List.length_map,go_sem,↓reduceIte]) (by simp only [go_sem, ↓reduceIte])) ?_
      simp only [take_map_len, List.drop_zero,go_sem,↓reduceIte]
      exact le_ev [] (by simp only [hc, Mon.ro,go_sem,↓reduceIte])
    · refine Le.trans (t := ⟨[(0, .agg [.i m'.records, .r (.ro none (m'.list.map Assoc.row)), .sl 3 0 m'.found.length])], [(3, .row 2 (m'.found.map Fnd.row))], 4, []⟩) (le_ev [(3, b2)] (by simp only [hc, go_sem, ↓reduceIte, h2])) ?_
      refine Le.trans (le_frz 3 rfl (by simp only [List.length_map,go_sem,↓reduceIte]) (by simp only [go_sem, ↓reduceIte])) ?_
      simp only [take_map_len, List.drop_zero,go_sem,↓reduceIte]
      exact le_ev [] (by simp only [hc, Mon.ro,go_sem,↓reduceIte])
end Go.Cap
