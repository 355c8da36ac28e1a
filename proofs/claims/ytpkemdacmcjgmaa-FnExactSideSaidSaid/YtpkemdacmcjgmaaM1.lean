import Derived.Test.YtpkemdacmcjgmaaA3
/- The parts of a talk, in plain terms. -/
namespace Go.Cap
set_option linter.unusedVariables false
set_option linter.unusedSimpArgs false

def l3 (a n : Int) : Int := (a + n) % 65536
structure Data where
  tsn : Int
  stream : Int
  ssn : Int
  first : Bool
  last : Bool
  loose : Bool
  text : List UInt8
def Data.row (d : Data) : List RV := [.n .i64 d.tsn, .n .i64 d.stream, .n .i64 d.ssn, .b d.first, .b d.last, .b d.loose, .s d.text]
def Data.av (d : Data) : AV := .agg [.i d.tsn, .i d.stream, .i d.ssn, .bo d.first, .bo d.last, .bo d.loose, .st d.text]

/-- Part 'j' of a message. -/
def part (sz : Nat) (tsn : Int) (ssn : Int) (s : Say) (j : Nat) : Data := ⟨l3 tsn j, s.stream, ssn, decide (j = 0), decide (s.text.length ≤ (j + 1) * sz), s.loose, (s.text.take ((j + 1) * sz)).drop (j * sz)⟩
/-- How many ordered messages of a stream begin in parts. -/
def ssnIn (out : List Data) (stream : Int) : Nat := out.countP fun d => d.first && !d.loose && d.stream == stream
def Talk.tsn (t : Talk) (byB : Bool) : Int := if byB then t.b.tsn else t.a.tsn
theorem ssnIn_app (a b : List Data) (x : Int) : ssnIn (a ++ b) x = ssnIn a x + ssnIn b x := by simp [ssnIn, List.countP_append]
theorem take_get {α : Type} {l : List α} {i : Nat} (h : i < l.length) : l.take (i + 1) = l.take i ++ [l[i]] := by rw [List.take_add_one, List.getElem?_eq_getElem h]; rfl
theorem ssnIn_take {l : List Data} {i : Nat} (h : i < l.length) (x : Int) : ssnIn (l.take (i + 1)) x = ssnIn (l.take i) x + (if l[i].first = true ∧ l[i].loose = false ∧ l[i].stream = x then 1 else 0) := by
  rw [take_get h, ssnIn_app]
  congr 1
  simp only [ssnIn, List.countP_cons, List.countP_nil]
  cases l[i].first <;> cases l[i].loose <;> simp
theorem ssnIn_le (l : List Data) (x : Int) : ssnIn l x ≤ l.length := List.countP_le_length
end Go.Cap
