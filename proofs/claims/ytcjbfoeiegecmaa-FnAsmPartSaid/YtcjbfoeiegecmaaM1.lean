import Derived.Test.YtcjbfoeiegecmaaA3
/- The parts of a talk, in plain terms. -/
namespace Go.Cap
set_option linter.unusedVariables false
set_option linter.unusedSimpArgs false

def l3 (a n : Int) : Int := (a + n) % 65536
structure Data where
  tsn : Int
  stream : Int
  ssn : Int
  first : Bool
  last : Bool
  loose : Bool
  text : List UInt8
def Data.row (d : Data) : List RV := [.n .i64 d.tsn, .n .i64 d.stream, .n .i64 d.ssn, .b d.first, .b d.last, .b d.loose, .s d.text]
def Data.av (d : Data) : AV := .agg [.i d.tsn, .i d.stream, .i d.ssn, .bo d.first, .bo d.last, .bo d.loose, .st d.text]

/-- How many parts a text of 'n' bytes has. -/
def manyN (n sz : Nat) : Nat := (n + sz - 1) / sz
/-- Part 'j' of a message. -/
def part (sz : Nat) (tsn : Int) (ssn : Int) (s : Say) (j : Nat) : Data := ⟨l3 tsn j, s.stream, ssn, decide (j = 0), decide (s.text.length ≤ (j + 1) * sz), s.loose, (s.text.take ((j + 1) * sz)).drop (j * sz)⟩
def chunks (sz : Nat) (tsn ssn : Int) (s : Say) : List Data := (List.range (manyN s.text.length sz)).map (part sz tsn ssn s)
/-- How many ordered messages of a stream begin in parts. -/
def ssnIn (out : List Data) (stream : Int) : Nat := out.countP fun d => d.first && !d.loose && d.stream == stream
def ssnOf (out : List Data) (s : Say) : Int := if s.loose then 0 else ssnIn out s.stream
def nextParts (sz : Nat) (tsn : Int) (out : List Data) (s : Say) : List Data := chunks sz (l3 tsn out.length) (ssnOf out s) s
/-- The parts of a side, behind those that are there. -/
def partsAcc (sz : Nat) (tsn : Int) (byB : Bool) : List Say → List Data → List Data
  | [], out => out
  | s :: l, out => partsAcc sz tsn byB l (if s.byB = byB then out ++ nextParts sz tsn out s else out)
def Talk.tsn (t : Talk) (byB : Bool) : Int := if byB then t.b.tsn else t.a.tsn
def talkParts (t : Talk) (byB : Bool) : List Data := if talkB t then partsAcc t.size.toNat (t.tsn byB) byB t.says [] else []

theorem l3_l3 (a m n : Int) : l3 (l3 a m) n = l3 a (m + n) := by unfold l3; omega
theorem l3_range (a n : Int) : 0 ≤ l3 a n ∧ l3 a n < 65536 := by unfold l3; omega
theorem serial_l3 (a n : Int) : serialB (l3 a n) = true := by have := l3_range a n; simp [serialB]; omega
theorem l3_zero {a : Int} (h : 0 ≤ a ∧ a < 65536) : l3 a 0 = a := by unfold l3; omega
theorem many_lt {n sz j : Nat} (hsz : 1 ≤ sz) : j < manyN n sz ↔ j * sz < n := by
  unfold manyN
  rw [Nat.lt_div_iff_mul_lt hsz]
  constructor <;> intro h <;> omega
theorem chunks_len (sz : Nat) (tsn ssn : Int) (s : Say) : (chunks sz tsn ssn s).length = manyN s.text.length sz := by simp [chunks]
theorem chunks_get {sz : Nat} {tsn ssn : Int} {s : Say} {j : Nat} (h : j < manyN s.text.length sz) : (chunks sz tsn ssn s)[j]? = some (part sz tsn ssn s j) := by simp [chunks, h]
theorem take_chunks {sz : Nat} {tsn ssn : Int} {s : Say} {j : Nat} (h : j < manyN s.text.length sz) : (chunks sz tsn ssn s).take (j + 1) = (chunks sz tsn ssn s).take j ++ [part sz tsn ssn s j] := by
  rw [List.take_add_one, chunks_get h]; rfl
theorem ssnIn_app (a b : List Data) (x : Int) : ssnIn (a ++ b) x = ssnIn a x + ssnIn b x := by simp [ssnIn, List.countP_append]
theorem partsAcc_drop {sz : Nat} {tsn : Int} {byB : Bool} {l : List Say} {i : Nat} (h : i < l.length) (out : List Data) : partsAcc sz tsn byB (l.drop i) out = partsAcc sz tsn byB (l.drop (i + 1)) (if l[i].byB = byB then out ++ nextParts sz tsn out l[i] else out) := by
  rw [List.drop_eq_getElem_cons h]; rfl
theorem many_le2 {n sz : Nat} (hsz : 1 ≤ sz) : manyN n sz ≤ n := by
  unfold manyN
  rcases Nat.eq_zero_or_pos n with h | h
  · subst h; simp; omega
  · rw [Nat.div_le_iff_le_mul_add_pred (by omega)]
    have : n ≤ n * sz := Nat.le_mul_of_pos_right n (by omega)
    have e : sz * n = n * sz := Nat.mul_comm _ _
    omega
theorem nextParts_len (sz : Nat) (tsn : Int) (out : List Data) (s : Say) : (nextParts sz tsn out s).length = manyN s.text.length sz := by simp [nextParts, chunks_len]
theorem take_get {α : Type} {l : List α} {i : Nat} (h : i < l.length) : l.take (i + 1) = l.take i ++ [l[i]] := by rw [List.take_add_one, List.getElem?_eq_getElem h]; rfl
theorem ssnIn_take {l : List Data} {i : Nat} (h : i < l.length) (x : Int) : ssnIn (l.take (i + 1)) x = ssnIn (l.take i) x + (if l[i].first = true ∧ l[i].loose = false ∧ l[i].stream = x then 1 else 0) := by
  rw [take_get h, ssnIn_app]
  congr 1
  simp only [ssnIn, List.countP_cons, List.countP_nil]
  cases l[i].first <;> cases l[i].loose <;> simp
theorem ssnIn_le (l : List Data) (x : Int) : ssnIn l x ≤ l.length := List.countP_le_length
end Go.Cap
