import Derived.Test.YtcjbfoeiegecmaaN5
import Derived.Test.YtcjbfoeiegecmaaEngC
/- Contracts: adding a part (the program's): the loops. -/
namespace Go.Cap
open Go Go.Proofs
set_option maxRecDepth 100000
set_option linter.unusedSimpArgs false
set_option linter.unusedVariables false
attribute [local irreducible] Call Run Spec Le

/-- Which indices are taken. -/
def takenR (p : List Nat) : List RV := (List.range 13).map fun j => .b (decide (j ∈ p))
@[go_sem] theorem takenR_len (p : List Nat) : (takenR p).length = 13 := by simp [takenR]
theorem takenR_set {p : List Nat} {i : Nat} (h : i < 13) : ((takenR p).map AV.r).set i (.r (.b true)) = (takenR (p ++ [i])).map AV.r := by
  apply List.ext_getElem
  · simp [takenR]
  · intro j h1 h2
    simp only [takenR, List.length_set, List.length_map, List.length_range] at h1
    rw [List.getElem_set]
    simp only [takenR, List.getElem_map, List.getElem_range, List.mem_append, List.mem_singleton]
    split
    · rename_i e; subst e; simp
    · rename_i e; simp; exact fun he => absurd he.symm e
theorem aget_eq : ∀ {l : List AV} {i : Nat} {v : AV}, l[i]? = some v → aget l i = v
  | [], i, v, h => by simp at h
  | x :: l, 0, v, h => by simpa [aget] using h
  | x :: l, i + 1, v, h => by simp only [aget]; exact aget_eq (by simpa using h)
theorem takenR_get {p : List Nat} {i : Nat} (h : i < 13) : aget ((takenR p).map AV.r) i = .bo (decide (i ∈ p)) := by
  have : ((takenR p).map AV.r)[i]? = some (AV.bo (decide (i ∈ p))) := by simp [takenR, h]
  exact aget_eq this
theorem textOfIx_len (l : List Data) (hx : ∀ d ∈ l, d.text.length ≤ 100000) : ∀ (p : List Nat), (∀ i ∈ p, i < l.length) → (textOfIx l p).length ≤ 100000 * p.length
  | [], _ => by simp [textOfIx]
  | i :: p, h => by
    have ih := textOfIx_len l hx p (fun j hj => h j (List.mem_cons_of_mem _ hj))
    have hi := h i (List.mem_cons_self ..)
    have h1 := hx _ (List.getElem_mem hi)
    rw [← dataAt_eq hi] at h1
    unfold textOfIx at ih ⊢
    rw [List.flatMap_cons, List.length_append, List.length_cons]; omega
/-- Where the chain's texts are joined. -/
theorem loop_implAsmAdd0 {c : Cx} (hP : c.P = Try.prog) (hm : c.m = 0) (a : Asm) (ms : List Msg) (p : List Nat) (st ssn : Int) (lo : Bool) (hp : ∀ i ∈ p, i < a.parts.length) (hl : a.parts.length ≤ 13) (hpl : p.length ≤ 13) (hx : ∀ d ∈ a.parts, d.text.length ≤ 100000) {s0 : St} {n r : St → Prop} {x : Nat → St → Prop}
    (hs : Le c s0 ⟨[(4, .ptr 0 0 0), (7, .ptr 1 0 0), (8, .sl 4 0 ms.length), (11, .ptr 5 0 0), (12, .ptr 6 0 0), (84, .sl 7 0 p.length), (85, .i p.length), (86, .i 0)],
      [(7, .row 1 (p.map natRow)), (6, .var ((takenR []).map .r)), (5, .var [.i st, .i ssn, .bo lo, .st []]), (4, .row 4 (ms.map Msg.row)), (3, .row 7 (a.parts.map Data.row)), (2, .row 1 (a.next.map intRow)), (1, .var [.sl 2 0 a.next.length, .sl 3 0 a.parts.length]), (0, .var [.r .nil, .r .nil])], 8, []⟩)
    (hx0 : x 2 ⟨[(4, .ptr 0 0 0), (7, .ptr 1 0 0), (8, .sl 4 0 ms.length), (11, .ptr 5 0 0), (12, .ptr 6 0 0)],
      [(6, .var ((takenR p).map .r)), (5, .var [.i st, .i ssn, .bo lo, .st (textOfIx a.parts p)]), (4, .row 4 (ms.map Msg.row)), (3, .row 7 (a.parts.map Data.row)), (2, .row 1 (a.next.map intRow)), (1, .var [.sl 2 0 a.next.length, .sl 3 0 a.parts.length]), (0, .var [.r .nil, .r .nil])], 7, []⟩) :
    Run c (.lp pc23l0) s0 n x r := by
  refine run_exit 2 (fun t0 => t0 = ⟨[(4, .ptr 0 0 0), (7, .ptr 1 0 0), (8, .sl 4 0 ms.length), (11, .ptr 5 0 0), (12, .ptr 6 0 0)],
      [(6, .var ((takenR p).map .r)), (5, .var [.i st, .i ssn, .bo lo, .st (textOfIx a.parts p)]), (4, .row 4 (ms.map Msg.row)), (3, .row 7 (a.parts.map Data.row)), (2, .row 1 (a.next.map intRow)), (1, .var [.sl 2 0 a.next.length, .sl 3 0 a.parts.length]), (0, .var [.r .nil, .r .nil])], 7, []⟩) ?_ (fun t0 h => by rw [h]; exact hx0)
  refine lp_wpc (α := Nat) (fun i => ⟨[(4, .ptr 0 0 0), (7, .ptr 1 0 0), (8, .sl 4 0 ms.length), (11, .ptr 5 0 0), (12, .ptr 6 0 0), (84, .sl 7 0 p.length), (85, .i p.length), (86, .i i)],
      [(7, .row 1 (p.map natRow)), (6, .var ((takenR (p.take i)).map .r)), (5, .var [.i st, .i ssn, .bo lo, .st (textOfIx a.parts (p.take i))]), (4, .row 4 (ms.map Msg.row)), (3, .row 7 (a.parts.map Data.row)), (2, .row 1 (a.next.map intRow)), (1, .var [.sl 2 0 a.next.length, .sl 3 0 a.parts.length]), (0, .var [.r .nil, .r .nil])], 8, []⟩)
    (fun i => i ≤ p.length) (fun i => p.length - i) 0 (Nat.zero_le _) (by simpa [textOfIx] using hs) ?_
  intro i hi
  unfold pc23l0
  rcases Nat.lt_or_ge i p.length with hil | hil
  · have hk := hp _ (List.getElem_mem hil)
    have e1 : textOfIx a.parts (p.take (i + 1)) = textOfIx a.parts (p.take i) ++ (dataAt a.parts p[i]).text := by
      unfold textOfIx; rw [take_get hil, List.flatMap_append, List.flatMap_cons, List.flatMap_nil, List.append_nil]
    have e2 : takenR (p.take i ++ [p[i]]) = takenR (p.take (i + 1)) := by rw [take_get hil]
    have hd := hx _ (List.getElem_mem hk)
    have hda := dataAt_eq hk
    simp only [Int.toNat_natCast, getD_map hil, natRow, hm, go_sem, ↓reduceIte]
    rw [hda] at e1
    generalize p[i] = k at hk e1 e2 hd hda
    simp only [Int.toNat_natCast, getD_map hk, Data.row, takenR_set (show k < 13 by omega), hm, go_sem, ↓reduceIte]
    have htl := textOfIx_len a.parts hx (p.take i) (fun j hj => hp j (List.mem_of_mem_take hj))
    have htk : (p.take i).length ≤ p.length := by rw [List.length_take]; omega
    refine ⟨fun hlt => ⟨by omega, hil, by omega, hk, by omega, by omega, by omega, i + 1, hil, by omega, ?_⟩, fun hge => absurd hge (by omega)⟩
    rw [wrap64 (by omega) (by omega), e2, ← e1]
    exact le_ev [] (by simp only [hm, go_sem, ↓reduceIte] <;> first | rfl | exact ⟨rfl, rfl⟩)
  · have : i = p.length := by omega
    subst this
    simp only [go_sem, ↓reduceIte]
    exact ⟨_, rfl, le_ev [] (by simp only [hm, List.take_length, go_sem, ↓reduceIte])⟩
theorem restFrom_drop {p : List Nat} {l : List Data} {i : Nat} (h : i < l.length) : restFrom p i (l.drop i) = if i ∈ p then restFrom p (i + 1) (l.drop (i + 1)) else l[i] :: restFrom p (i + 1) (l.drop (i + 1)) := by
  rw [List.drop_eq_getElem_cons h]; rfl
/-- Where the parts that are left are gathered. -/
theorem loop_implAsmAdd1 {c : Cx} (hP : c.P = Try.prog) (hm : c.m = 0) (a : Asm) (ms : List Msg) (p : List Nat) (m : Msg) (hl : a.parts.length ≤ 13) {s0 : St} {n r : St → Prop} {x : Nat → St → Prop}
    (hs : Le c s0 ⟨[(4, .ptr 0 0 0), (7, .ptr 1 0 0), (8, .sl 4 0 ms.length), (11, .ptr 5 0 0), (12, .ptr 6 0 0), (15, .sl 7 0 0), (105, .sl 3 0 a.parts.length), (106, .i a.parts.length), (107, .i 0)],
      [(7, .row 7 []), (6, .var ((takenR p).map .r)), (5, .var [.i m.stream, .i m.ssn, .bo m.loose, .st m.text]), (4, .row 4 (ms.map Msg.row)), (3, .row 7 (a.parts.map Data.row)), (2, .row 1 (a.next.map intRow)), (1, .var [.sl 2 0 a.next.length, .sl 3 0 a.parts.length]), (0, .var [.r .nil, .r .nil])], 8, []⟩)
    (hx0 : x 4 ⟨[(4, .ptr 0 0 0), (7, .ptr 1 0 0), (8, .sl 4 0 ms.length), (11, .ptr 5 0 0), (15, .sl 6 0 (restFrom p 0 a.parts).length)],
      [(6, .row 7 ((restFrom p 0 a.parts).map Data.row)), (5, .var [.i m.stream, .i m.ssn, .bo m.loose, .st m.text]), (4, .row 4 (ms.map Msg.row)), (3, .row 7 (a.parts.map Data.row)), (2, .row 1 (a.next.map intRow)), (1, .var [.sl 2 0 a.next.length, .sl 3 0 a.parts.length]), (0, .var [.r .nil, .r .nil])], 7, []⟩) :
    Run c (.lp pc23l1) s0 n x r := by
  refine run_exit 4 (fun t0 => t0 = ⟨[(4, .ptr 0 0 0), (7, .ptr 1 0 0), (8, .sl 4 0 ms.length), (11, .ptr 5 0 0), (15, .sl 6 0 (restFrom p 0 a.parts).length)],
      [(6, .row 7 ((restFrom p 0 a.parts).map Data.row)), (5, .var [.i m.stream, .i m.ssn, .bo m.loose, .st m.text]), (4, .row 4 (ms.map Msg.row)), (3, .row 7 (a.parts.map Data.row)), (2, .row 1 (a.next.map intRow)), (1, .var [.sl 2 0 a.next.length, .sl 3 0 a.parts.length]), (0, .var [.r .nil, .r .nil])], 7, []⟩) ?_ (fun t0 h => by rw [h]; exact hx0)
  refine lp_wpc (α := Nat × List Data) (fun y => ⟨[(4, .ptr 0 0 0), (7, .ptr 1 0 0), (8, .sl 4 0 ms.length), (11, .ptr 5 0 0), (12, .ptr 6 0 0), (15, .sl 7 0 y.2.length), (105, .sl 3 0 a.parts.length), (106, .i a.parts.length), (107, .i y.1)],
      [(7, .row 7 (y.2.map Data.row)), (6, .var ((takenR p).map .r)), (5, .var [.i m.stream, .i m.ssn, .bo m.loose, .st m.text]), (4, .row 4 (ms.map Msg.row)), (3, .row 7 (a.parts.map Data.row)), (2, .row 1 (a.next.map intRow)), (1, .var [.sl 2 0 a.next.length, .sl 3 0 a.parts.length]), (0, .var [.r .nil, .r .nil])], 8, []⟩)
    (fun y => y.1 ≤ a.parts.length ∧ y.2.length ≤ y.1 ∧ y.2 ++ restFrom p y.1 (a.parts.drop y.1) = restFrom p 0 a.parts) (fun y => a.parts.length - y.1) (0, []) ⟨Nat.zero_le _, Nat.le_refl _, rfl⟩ hs ?_
  rintro ⟨i, acc⟩ ⟨hi, ha, hI⟩
  simp only at hi ha hI
  unfold pc23l1
  rcases Nat.lt_or_ge i a.parts.length with hil | hil
  · rw [restFrom_drop hil] at hI
    simp only [Int.toNat_natCast, getD_map hil, Data.row, takenR_get (show i < 13 by omega), hm, go_sem, ↓reduceIte]
    generalize a.parts[i] = d at hI
    have hrow : List.take acc.length (acc.map Data.row) ++ [[.n .i64 d.tsn, .n .i64 d.stream, .n .i64 d.ssn, .b d.first, .b d.last, .b d.loose, .s d.text]] = (acc ++ [d]).map Data.row := by
      rw [List.take_of_length_le (by simp), List.map_append]; rfl
    rw [wrap64 (x := (i : Int) + 1) (by omega) (by omega)]
    refine ⟨fun hlt => ⟨by omega, hil, by omega, by omega, fun hn => ⟨by omega, (i + 1, acc ++ [d]), ⟨hil, ?_, ?_⟩, ?_, ?_⟩, fun hn => ⟨(i + 1, acc), ⟨hil, ?_, ?_⟩, ?_, ?_⟩⟩, fun hge => absurd hge (by omega)⟩
    · simp only [List.length_append, List.length_cons, List.length_nil]; omega
    · rw [if_neg hn] at hI; simp only [List.append_assoc, List.cons_append, List.nil_append]; exact hI
    · simp only; omega
    · rw [hrow]; exact le_ev [] (by simp only [hm, go_sem, ↓reduceIte] <;> first | rfl | exact ⟨rfl, rfl⟩)
    · simp only; omega
    · rw [if_pos hn] at hI; exact hI
    · simp only; omega
    · exact le_ev [] (by simp only [hm, go_sem, ↓reduceIte] <;> first | rfl | exact ⟨rfl, rfl⟩)
  · have : i = a.parts.length := by omega
    subst this
    rw [List.drop_eq_nil_of_le (Nat.le_refl _), restFrom, List.append_nil] at hI
    rw [← hI]
    simp only [go_sem, ↓reduceIte]
    exact ⟨_, rfl, le_ev [(6, 7)] (by simp only [hm, go_sem, ↓reduceIte])⟩
end Go.Cap
