import Derived.Test.YtpkemdacmcjgmaaM1
/- The parts of a talk as the program lays them: one list a message. -/
namespace Go.Cap
set_option linter.unusedVariables false
set_option linter.unusedSimpArgs false

def tpRow (b : Bool) (d : Data) : List RV := .b b :: d.row
def lists (z : Nat) (ta tb : Int) : List Say → List Data → List Data → List (Bool × List Data)
  | [], _, _ => []
  | s :: l, f, g => if s.byB then (true, nextParts z tb g s) :: lists z ta tb l f (g ++ nextParts z tb g s) else (false, nextParts z ta f s) :: lists z ta tb l (f ++ nextParts z ta f s) g
def listRow (x : Bool × List Data) : List RV := [.ro none (x.2.map (tpRow x.1))]
def flatOf (byB : Bool) (l : List (Bool × List Data)) : List Data := l.flatMap fun x => if x.1 = byB then x.2 else []
theorem flat_lists (z : Nat) (ta tb : Int) (byB : Bool) : ∀ (l : List Say) (f g : List Data), partsAcc z (if byB then tb else ta) byB l (if byB then g else f) = (if byB then g else f) ++ flatOf byB (lists z ta tb l f g)
  | [], f, g => by simp [partsAcc, lists, flatOf]
  | s :: l, f, g => by
    have h1 := flat_lists z ta tb byB l (f ++ nextParts z ta f s) g
    have h2 := flat_lists z ta tb byB l f (g ++ nextParts z tb g s)
    cases hs : s.byB <;> cases byB
    · simp only [Bool.false_eq_true, if_false] at h1
      simp [partsAcc, lists, hs, h1, flatOf]
    · simp only [if_true] at h1
      simp [partsAcc, lists, hs, h1, flatOf]
    · simp only [Bool.false_eq_true, if_false] at h2
      simp [partsAcc, lists, hs, h2, flatOf]
    · simp only [if_true] at h2
      simp [partsAcc, lists, hs, h2, flatOf]
theorem lists_drop {z : Nat} {ta tb : Int} {l : List Say} {i : Nat} (h : i < l.length) (f g : List Data) : lists z ta tb (l.drop i) f g =
    if l[i].byB then (true, nextParts z tb g l[i]) :: lists z ta tb (l.drop (i + 1)) f (g ++ nextParts z tb g l[i]) else (false, nextParts z ta f l[i]) :: lists z ta tb (l.drop (i + 1)) (f ++ nextParts z ta f l[i]) g := by
  rw [List.drop_eq_getElem_cons h]; rfl

/-- The counters of a side's streams. -/
def cnt (f : List Data) : List AV := [.i (ssnIn f 0), .i (ssnIn f 1), .i (ssnIn f 2), .i (ssnIn f 3)]
def cnts (f g : List Data) : List AV := [.i (ssnIn f 0), .i (ssnIn f 1), .i (ssnIn f 2), .i (ssnIn f 3), .i (ssnIn g 0), .i (ssnIn g 1), .i (ssnIn g 2), .i (ssnIn g 3)]
def cntsR (f g : List Data) : List RV := [.n .i64 (ssnIn f 0), .n .i64 (ssnIn f 1), .n .i64 (ssnIn f 2), .n .i64 (ssnIn f 3), .n .i64 (ssnIn g 0), .n .i64 (ssnIn g 1), .n .i64 (ssnIn g 2), .n .i64 (ssnIn g 3)]
theorem cntsR_map (f g : List Data) : cnts f g = (cntsR f g).map .r := rfl
theorem stream4 {x : Int} (h : 0 ≤ x ∧ x < 4) : x = 0 ∨ x = 1 ∨ x = 2 ∨ x = 3 := by omega
theorem cnts_a {f g : List Data} {x : Int} (h : 0 ≤ x ∧ x < 4) : aget (cnts f g) x.toNat = .i (ssnIn f x) := by
  rcases stream4 h with rfl | rfl | rfl | rfl <;> rfl
theorem cnts_b {f g : List Data} {x : Int} (h : 0 ≤ x ∧ x < 4) : aget (cnts f g) (4 + x.toNat) = .i (ssnIn g x) := by
  rcases stream4 h with rfl | rfl | rfl | rfl <;> rfl
theorem ssnIn_next {z : Nat} (hz : 1 ≤ z) (tsn : Int) (f : List Data) (s : Say) (h1 : 1 ≤ s.text.length) (y : Int) : ssnIn (f ++ nextParts z tsn f s) y = ssnIn f y + (if s.loose = false ∧ s.stream = y then 1 else 0) := by
  rw [ssnIn_app]; unfold nextParts; rw [ssnIn_chunks hz _ _ _ h1]
theorem cnts_seta {z : Nat} (hz : 1 ≤ z) {tsn : Int} {f g : List Data} {s : Say} (h1 : 1 ≤ s.text.length) (h : 0 ≤ s.stream ∧ s.stream < 4) (hl : s.loose = false) : (cnts f g).set s.stream.toNat (.i ((ssnIn f s.stream : Int) + 1)) = cnts (f ++ nextParts z tsn f s) g := by
  have e := fun y => ssnIn_next hz tsn f s h1 y
  unfold cnts
  rw [e 0, e 1, e 2, e 3]
  rcases stream4 h with h | h | h | h <;> simp [h, hl]
theorem cnts_setb {z : Nat} (hz : 1 ≤ z) {tsn : Int} {f g : List Data} {s : Say} (h1 : 1 ≤ s.text.length) (h : 0 ≤ s.stream ∧ s.stream < 4) (hl : s.loose = false) : (cnts f g).set (4 + s.stream.toNat) (.i ((ssnIn g s.stream : Int) + 1)) = cnts f (g ++ nextParts z tsn g s) := by
  have e := fun y => ssnIn_next hz tsn g s h1 y
  unfold cnts
  rw [e 0, e 1, e 2, e 3]
  rcases stream4 h with h | h | h | h <;> simp [h, hl]
theorem cnts_loosea {z : Nat} (hz : 1 ≤ z) {tsn : Int} {f g : List Data} {s : Say} (h1 : 1 ≤ s.text.length) (hl : s.loose = true) : cnts (f ++ nextParts z tsn f s) g = cnts f g := by
  have e := fun y => ssnIn_next hz tsn f s h1 y
  unfold cnts
  rw [e 0, e 1, e 2, e 3]; simp [hl]
theorem cnts_looseb {z : Nat} (hz : 1 ≤ z) {tsn : Int} {f g : List Data} {s : Say} (h1 : 1 ≤ s.text.length) (hl : s.loose = true) : cnts f (g ++ nextParts z tsn g s) = cnts f g := by
  have e := fun y => ssnIn_next hz tsn g s h1 y
  unfold cnts
  rw [e 0, e 1, e 2, e 3]; simp [hl]
/-- The row of a part, as the loops reckon it. -/
theorem part_row {z : Nat} (hz : 1 ≤ z) (f : Int) (k : Nat) (ssn : Int) (s : Say) (j : Nat) (E : Int) (hE : E = min (s.text.length : Int) (((j + 1) * z : Nat) : Int)) :
    (part z (l3 f k) ssn s j).row = [.n .i64 (l3 f ((k + j : Nat) : Int)), .n .i64 s.stream, .n .i64 ssn, .b (((j * z : Nat) : Int) == 0), .b (E == s.text.length), .b s.loose, .s ((s.text.take E.toNat).drop ((j * z : Nat) : Int).toNat)] := by
  simp only [part, Data.row, l3_l3]
  have k1 : (decide (j = 0)) = (((j * z : Nat) : Int) == 0) := by
    rw [Bool.eq_iff_iff]; simp only [decide_eq_true_eq, beq_iff_eq]
    constructor
    · rintro rfl; simp
    · intro h
      have : j * z = 0 := by omega
      rcases Nat.mul_eq_zero.1 this with h | h <;> omega
  have k2 : (decide (s.text.length ≤ (j + 1) * z)) = (E == s.text.length) := by
    rw [Bool.eq_iff_iff]; simp only [decide_eq_true_eq, beq_iff_eq]; omega
  have k3 : s.text.take ((j + 1) * z) = s.text.take E.toNat := by
    rcases Nat.lt_or_ge s.text.length ((j + 1) * z) with h | h
    · have : E.toNat = s.text.length := by omega
      rw [this, List.take_of_length_le (by omega), List.take_of_length_le (by omega)]
    · have : E.toNat = (j + 1) * z := by omega
      rw [this]
  rw [k1, k2, k3, Int.toNat_natCast, show ((k : Int) + (j : Int)) = ((k + j : Nat) : Int) by omega]
end Go.Cap
