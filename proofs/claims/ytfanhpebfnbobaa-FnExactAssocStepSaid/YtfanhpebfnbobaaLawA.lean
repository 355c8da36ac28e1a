import Derived.Test.YtfanhpebfnbobaaEngC
import Derived.Test.YtfanhpebfnbobaaPc
/- Contracts of the functions that TalkValid reaches. -/
namespace Go.Cap
open Go Go.Proofs
set_option maxRecDepth 100000
set_option linter.unusedSimpArgs false
set_option linter.unusedVariables false
attribute [local irreducible] Call Run Spec Le

def serialB (x : Int) : Bool := decide (0 ≤ x ∧ x < 65536)
theorem bo_inj {a b : Bool} (h : a = b) : AV.r (.b a) = AV.bo b := by rw [h]
def inB (n lo hi : Int) : Bool := decide (lo ≤ n ∧ n ≤ hi)
structure Say where
  byB : Bool
  stream : Int
  loose : Bool
  text : List UInt8
def Say.row (s : Say) : List RV := [.b s.byB, .n .i64 s.stream, .b s.loose, .s s.text]
def Say.av (s : Say) : AV := .agg [.bo s.byB, .i s.stream, .bo s.loose, .st s.text]
structure Init where
  tag : Int
  window : Int
  streams : Int
  tsn : Int
def Init.av (x : Init) : AV := .agg [.i x.tag, .i x.window, .i x.streams, .i x.tsn]
def initB (x : Init) : Bool := decide (1 ≤ x.tag ∧ x.tag ≤ 4294967295 ∧ 1 ≤ x.streams ∧ x.streams ≤ 4) && serialB x.window && serialB x.tsn
structure Talk where
  fr : Int
  to : Int
  a : Init
  b : Init
  size : Int
  says : List Say
def Talk.av (t : Talk) (x : AV) : AV := .agg [.i t.fr, .i t.to, .i t.a.tag, .i t.a.window, .i t.a.streams, .i t.a.tsn, .i t.b.tag, .i t.b.window, .i t.b.streams, .i t.b.tsn, .i t.size, x]
abbrev Talk.ro (t : Talk) : AV := t.av (.r (.ro none (t.says.map Say.row)))

theorem s_serialOk (x : Int) : Spec Try.prog 109 0 [] [.i x] (fun r _ _ _ => r = .bo (serialB x)) := by
  refine mk109 rfl fun c hP hm => ?_
  unfold pc109
  simp only [go_sem, ↓reduceIte]
  repeat' first | refine And.intro ?_ ?_ | intro _
  all_goals (simp [serialB]; try omega)
theorem c_serialOk {c : Cx} (hP : c.P = Try.prog) {x : Int} {s : St} {K : AV → St → Prop} (h : K (.bo (serialB x)) s) : Call c 109 [.i x] s K :=
  call_pure (hP ▸ s_serialOk x) rfl rfl h
theorem s_l6In (x lo hi : Int) : Spec Try.prog 116 0 [] [.i x, .i lo, .i hi] (fun r _ _ _ => r = .bo (inB x lo hi)) := by
  refine mk116 rfl fun c hP hm => ?_
  unfold pc116
  simp only [go_sem, ↓reduceIte]
  repeat' first | refine And.intro ?_ ?_ | intro _
  all_goals (simp [inB]; try omega)
theorem c_l6In {c : Cx} (hP : c.P = Try.prog) {x lo hi : Int} {s : St} {K : AV → St → Prop} (h : K (.bo (inB x lo hi)) s) : Call c 116 [.i x, .i lo, .i hi] s K :=
  call_pure (hP ▸ s_l6In x lo hi) rfl rfl h
theorem s_l3Ok (x : Int) : Spec Try.prog 163 0 [] [.i x] (fun r _ _ _ => r = .bo (serialB x)) := by
  refine mk163 rfl fun c hP hm => ?_
  unfold pc163
  simp only [go_sem, ↓reduceIte]
  refine c_l6In hP ?_
  simp only [go_sem, ↓reduceIte]
  rw [show serialB x = inB x 0 65535 by simp only [serialB, inB, decide_eq_decide]; omega]
theorem c_l3Ok {c : Cx} (hP : c.P = Try.prog) {x : Int} {s : St} {K : AV → St → Prop} (h : K (.bo (serialB x)) s) : Call c 163 [.i x] s K :=
  call_pure (hP ▸ s_l3Ok x) rfl rfl h
theorem s_initOk (x : Init) : Spec Try.prog 108 0 [] [x.av] (fun r _ _ _ => r = .bo (initB x)) := by
  obtain ⟨a, b, d, e⟩ := x
  refine mk108 rfl fun c hP hm => ?_
  unfold pc108 Init.av
  simp only [go_sem, ↓reduceIte]
  repeat' first | refine And.intro ?_ ?_ | intro _ | (refine c_serialOk hP ?_; simp only [go_sem, ↓reduceIte])
  all_goals (simp [initB, *]; try omega)
theorem s_l12Init (x : Init) : Spec Try.prog 136 0 [] [x.av] (fun r _ _ _ => r = .bo (initB x)) := by
  obtain ⟨a, b, d, e⟩ := x
  refine mk136 rfl fun c hP hm => ?_
  unfold pc136 Init.av
  simp only [go_sem, ↓reduceIte]
  repeat' first | refine And.intro ?_ ?_ | intro _ | (refine c_l6In hP ?_; simp only [go_sem, ↓reduceIte]) | (refine c_l3Ok hP ?_; simp only [go_sem, ↓reduceIte])
  all_goals (simp [initB, inB, serialB] at *; try omega)
end Go.Cap

/- Contracts: sizes and copies of a talk. -/
namespace Go.Cap
open Go Go.Proofs
set_option maxRecDepth 100000
set_option linter.unusedSimpArgs false
set_option linter.unusedVariables false
attribute [local irreducible] Call Run Spec Le

/-- What is left of a bound. -/
def szText (n left : Int) : Int := if left - n < 0 then -1 else left - n
def szTexts : List Int → Int → Int
  | [], left => left
  | n :: l, left => if szText n left < 0 then -1 else szTexts l (szText n left)
theorem szTexts_drop {l : List Int} {i : Nat} (h : i < l.length) (left : Int) : szTexts (l.drop i) left = if szText l[i] left < 0 then -1 else szTexts (l.drop (i + 1)) (szText l[i] left) := by
  rw [List.drop_eq_getElem_cons h]; rfl
theorem szText_le (n left : Int) (hn : 0 ≤ n) : szText n left ≤ left ∨ szText n left = -1 := by
  unfold szText; split
  · exact .inr rfl
  · exact .inl (by omega)

theorem szTexts_spec : ∀ (l : List Int) (left : Int), (∀ n ∈ l, 0 ≤ n) → 0 ≤ szTexts l left → left - szTexts l left = l.sum
  | [], left, _, _ => by simp [szTexts]
  | n :: l, left, hn, h => by
    simp only [szTexts] at h ⊢
    split at h
    · omega
    · rename_i h1
      rw [if_neg h1]
      have := szTexts_spec l (szText n left) (fun n hm => hn n (List.mem_cons_of_mem _ hm)) h
      have h2 : szText n left = left - n := by
        unfold szText at h1 ⊢; split
        · rename_i h3; rw [if_pos h3] at h1; omega
        · rfl
      rw [h2] at this ⊢
      simp only [List.sum_cons]; omega
theorem sum_mem : ∀ (l : List Int), (∀ n ∈ l, 0 ≤ n) → ∀ n ∈ l, n ≤ l.sum
  | [], _, n, h => by cases h
  | x :: l, hl, n, h => by
    have h0 := hl x (by simp)
    have hp : ∀ (l : List Int), (∀ n ∈ l, 0 ≤ n) → 0 ≤ l.sum := by
      intro l
      induction l with
      | nil => intro _; simp
      | cons y l ih => intro h; have := h y (by simp); have := ih (fun n hn => h n (List.mem_cons_of_mem _ hn)); simp only [List.sum_cons]; omega
    have h1 := hp l (fun n hn => hl n (List.mem_cons_of_mem _ hn))
    rcases List.mem_cons.1 h with rfl | h
    · simp only [List.sum_cons]; omega
    · have := sum_mem l (fun n hn => hl n (List.mem_cons_of_mem _ hn)) n h
      simp only [List.sum_cons]; omega
end Go.Cap

/- The parts of a talk, in plain terms. -/
namespace Go.Cap
set_option linter.unusedVariables false
set_option linter.unusedSimpArgs false

def l3 (a n : Int) : Int := (a + n) % 65536
structure Data where
  tsn : Int
  stream : Int
  ssn : Int
  first : Bool
  last : Bool
  loose : Bool
  text : List UInt8
def Data.row (d : Data) : List RV := [.n .i64 d.tsn, .n .i64 d.stream, .n .i64 d.ssn, .b d.first, .b d.last, .b d.loose, .s d.text]
def Data.av (d : Data) : AV := .agg [.i d.tsn, .i d.stream, .i d.ssn, .bo d.first, .bo d.last, .bo d.loose, .st d.text]

/-- How many parts a text of 'n' bytes has. -/
def manyN (n sz : Nat) : Nat := (n + sz - 1) / sz
/-- Part 'j' of a message. -/
def part (sz : Nat) (tsn : Int) (ssn : Int) (s : Say) (j : Nat) : Data := ⟨l3 tsn j, s.stream, ssn, decide (j = 0), decide (s.text.length ≤ (j + 1) * sz), s.loose, (s.text.take ((j + 1) * sz)).drop (j * sz)⟩
def chunks (sz : Nat) (tsn ssn : Int) (s : Say) : List Data := (List.range (manyN s.text.length sz)).map (part sz tsn ssn s)
/-- How many ordered messages of a stream begin in parts. -/
def ssnIn (out : List Data) (stream : Int) : Nat := out.countP fun d => d.first && !d.loose && d.stream == stream
def ssnOf (out : List Data) (s : Say) : Int := if s.loose then 0 else ssnIn out s.stream
def nextParts (sz : Nat) (tsn : Int) (out : List Data) (s : Say) : List Data := chunks sz (l3 tsn out.length) (ssnOf out s) s
def Talk.tsn (t : Talk) (byB : Bool) : Int := if byB then t.b.tsn else t.a.tsn
theorem l3_l3 (a m n : Int) : l3 (l3 a m) n = l3 a (m + n) := by unfold l3; omega
theorem l3_range (a n : Int) : 0 ≤ l3 a n ∧ l3 a n < 65536 := by unfold l3; omega
theorem serial_l3 (a n : Int) : serialB (l3 a n) = true := by have := l3_range a n; simp [serialB]; omega
theorem l3_zero {a : Int} (h : 0 ≤ a ∧ a < 65536) : l3 a 0 = a := by unfold l3; omega
theorem many_lt {n sz j : Nat} (hsz : 1 ≤ sz) : j < manyN n sz ↔ j * sz < n := by
  unfold manyN
  rw [Nat.lt_div_iff_mul_lt hsz]
  constructor <;> intro h <;> omega
theorem chunks_len (sz : Nat) (tsn ssn : Int) (s : Say) : (chunks sz tsn ssn s).length = manyN s.text.length sz := by simp [chunks]
theorem chunks_get {sz : Nat} {tsn ssn : Int} {s : Say} {j : Nat} (h : j < manyN s.text.length sz) : (chunks sz tsn ssn s)[j]? = some (part sz tsn ssn s j) := by simp [chunks, h]
theorem take_chunks {sz : Nat} {tsn ssn : Int} {s : Say} {j : Nat} (h : j < manyN s.text.length sz) : (chunks sz tsn ssn s).take (j + 1) = (chunks sz tsn ssn s).take j ++ [part sz tsn ssn s j] := by
  rw [List.take_add_one, chunks_get h]; rfl
theorem ssnIn_app (a b : List Data) (x : Int) : ssnIn (a ++ b) x = ssnIn a x + ssnIn b x := by simp [ssnIn, List.countP_append]
theorem nextParts_len (sz : Nat) (tsn : Int) (out : List Data) (s : Say) : (nextParts sz tsn out s).length = manyN s.text.length sz := by simp [nextParts, chunks_len]
theorem take_get {α : Type} {l : List α} {i : Nat} (h : i < l.length) : l.take (i + 1) = l.take i ++ [l[i]] := by rw [List.take_add_one, List.getElem?_eq_getElem h]; rfl
theorem ssnIn_take {l : List Data} {i : Nat} (h : i < l.length) (x : Int) : ssnIn (l.take (i + 1)) x = ssnIn (l.take i) x + (if l[i].first = true ∧ l[i].loose = false ∧ l[i].stream = x then 1 else 0) := by
  rw [take_get h, ssnIn_app]
  congr 1
  simp only [ssnIn, List.countP_cons, List.countP_nil]
  cases l[i].first <;> cases l[i].loose <;> simp
theorem ssnIn_le (l : List Data) (x : Int) : ssnIn l x ≤ l.length := List.countP_le_length
end Go.Cap

/- Contracts: serial numbers; the reference's parts. -/
namespace Go.Cap
open Go Go.Proofs
set_option maxRecDepth 100000
set_option linter.unusedSimpArgs false
set_option linter.unusedVariables false
attribute [local irreducible] Call Run Spec Le

theorem tmod64k (n : Int) : -65536 < n.tmod 65536 ∧ n.tmod 65536 < 65536 ∧ (n.tmod 65536 - n) % 65536 = 0 := by
  rcases Int.lt_or_le n 0 with h | h
  · have e : n.tmod 65536 = -((-n).tmod 65536) := by rw [← Int.neg_tmod, Int.neg_neg]
    rw [e, Int.tmod_eq_emod_of_nonneg (by omega)]; omega
  · rw [Int.tmod_eq_emod_of_nonneg h]; omega
theorem s_l3Add (a n : Int) (ha : 0 ≤ a ∧ a < 65536) : Spec Try.prog 139 0 [] [.i a, .i n] (fun r _ _ _ => r = .i (l3 a n)) := by
  refine mk139 rfl fun c hP hm => ?_
  unfold pc139
  simp only [go_sem, ↓reduceIte]
  obtain ⟨h1, h2, h3⟩ := tmod64k n
  simp (disch := omega) only [wrap64]
  rw [Int.tmod_eq_emod_of_nonneg (by omega)]
  unfold l3
  congr 2; omega
theorem s_SerialAdd (a n : Int) : Spec Try.prog 111 0 [] [.i a, .i n] (fun r _ _ _ => r = .i (if serialB a then l3 a n else -1)) := by
  refine mk111 rfl fun c hP hm => ?_
  unfold pc111
  simp only [go_sem, ↓reduceIte]
  refine c_serialOk hP ?_
  simp only [go_sem, ↓reduceIte]
  refine ⟨fun h => ?_, fun h => ?_⟩
  · rw [h]; rfl
  · have ha : 0 ≤ a ∧ a < 65536 := by simpa [serialB] using h
    obtain ⟨h1, h2, h3⟩ := tmod64k n
    have h4 := tmod64k (a + n.tmod 65536)
    simp (disch := omega) only [wrap64]
    rw [Int.tmod_eq_emod_of_nonneg (a := (a + n.tmod 65536).tmod 65536 + 65536) (by omega), h, if_pos rfl]
    unfold l3
    congr 2; omega
theorem dataClosed (l : List Data) : closL2 (l.map Data.row) := closL2_map (fun s x hx => by
  simp only [Data.row, List.mem_cons, List.not_mem_nil, or_false] at hx
  rcases hx with rfl | rfl | rfl | rfl | rfl | rfl | rfl <;> rfl) l
theorem s_l31Ssn (l : List Data) (x : Int) (hl : l.length ≤ 4000000) : Spec Try.prog 138 0 [] [.r (.ro none (l.map Data.row)), .i x] (fun r _ _ _ => r = .i (ssnIn l x)) := by
  refine mk138 rfl fun c hP hm => ?_
  unfold pc138
  simp only [go_sem, ↓reduceIte]
  refine lp_wpc (α := Nat) (fun i => ⟨[(0, .r (.ro none (l.map Data.row))), (1, .i x), (5, .i (ssnIn (l.take i) x)), (6, .i i)], [], 0, []⟩) (fun i => i ≤ l.length) (fun i => l.length - i) 0 (Nat.zero_le _) (le_eq (by simp [ssnIn])) ?_
  intro i hi
  unfold pc138l0
  simp only [go_sem, ↓reduceIte]
  intro _
  refine ⟨fun hlt => ?_, fun hge => ?_⟩
  · have hil : i < l.length := by omega
    have hs := ssnIn_take hil x
    have hle := ssnIn_le (l.take i) x
    simp only [List.length_take] at hle
    simp only [Int.toNat_natCast, getD_map hil, Data.row, go_sem, ↓reduceIte]
    generalize hd : l[i] = d at hs
    obtain ⟨a, b, e, f, g, h, k⟩ := d
    simp only at hs
    simp only [Data.row, go_sem, ↓reduceIte]
    refine ⟨⟨by omega, by omega⟩, ?_⟩
    have e1 : IntKind.i64.wrap ((i : Int) + 1) = ((i + 1 : Nat) : Int) := by rw [wrap64 (by omega) (by omega)]; omega
    have e2 : IntKind.i64.wrap ((ssnIn (l.take i) x : Int) + 1) = ((ssnIn (l.take i) x + 1 : Nat) : Int) := by rw [wrap64 (by omega) (by omega)]; omega
    rw [e1, e2]
    repeat' first | refine And.intro ?_ ?_ | intro _
    all_goals first
      | omega
      | (simp only [*, if_true, if_false, Bool.false_eq_true, and_self, true_and, false_and, and_false, reduceCtorEq] at hs
         exact ⟨i + 1, hil, by omega, le_eq (by rw [hs] <;> rfl)⟩)
  · have : i = l.length := by omega
    subst this
    simp

end Go.Cap

/- The parts of a talk as the program lays them: one list a message. -/
namespace Go.Cap
set_option linter.unusedVariables false
set_option linter.unusedSimpArgs false

/-- The counters of a side's streams. -/
def cnt (f : List Data) : List AV := [.i (ssnIn f 0), .i (ssnIn f 1), .i (ssnIn f 2), .i (ssnIn f 3)]
def cnts (f g : List Data) : List AV := [.i (ssnIn f 0), .i (ssnIn f 1), .i (ssnIn f 2), .i (ssnIn f 3), .i (ssnIn g 0), .i (ssnIn g 1), .i (ssnIn g 2), .i (ssnIn g 3)]
end Go.Cap

/- Contracts: the program's parts. -/
namespace Go.Cap
open Go Go.Proofs
set_option maxRecDepth 100000
set_option linter.unusedSimpArgs false
set_option linter.unusedVariables false
attribute [local irreducible] Call Run Spec Le

@[go_sem] theorem cnts_len (f g : List Data) : (cnts f g).length = 8 := (rfl)
end Go.Cap

/- Contracts: the reader of a code, and small draws. -/
namespace Go.Cap
open Go Go.Proofs
set_option maxRecDepth 100000
set_option linter.unusedSimpArgs false
set_option linter.unusedVariables false
attribute [local irreducible] Call Run Spec Le

def byteRow (b : UInt8) : List RV := [.n .u8 b.toNat]
def rdB (code : List UInt8) (p : Int) : Blk := .var [.r (.ro none (code.map byteRow)), .i p]

@[go_sem] theorem renB_rd (f : Nat → Nat) (code : List UInt8) (p : Int) : renB f (rdB code p) = rdB code p := (rfl)
@[go_sem] theorem killH_rd (b j : Nat) (code : List UInt8) (p : Int) (l : List (Nat × Blk)) : killH b ((j, rdB code p) :: l) = (j, rdB code p) :: killH b l := (rfl)

end Go.Cap

/- Contracts: the laws' helpers on parts. -/
namespace Go.Cap
open Go Go.Proofs
set_option maxRecDepth 100000
set_option linter.unusedSimpArgs false
set_option linter.unusedVariables false
attribute [local irreducible] Call Run Spec Le

theorem mid_get {α : Type} {A B : List α} {d x : α} {i : Nat} (h : A.length = i) : (A ++ x :: B).getD i d = x := by
  rw [List.getD_eq_getElem?_getD, List.getElem?_append_right (by omega), h, Nat.sub_self]; rfl
theorem mid_set {α : Type} {A B : List α} {x y : α} {i : Nat} (h : A.length = i) : (A ++ x :: B).set i y = A ++ y :: B := by
  rw [List.set_append_right _ _ (by omega), h, Nat.sub_self]; rfl
theorem mid_len {α : Type} (A B : List α) (x : α) : (A ++ x :: B).length = A.length + (B.length + 1) := by simp
theorem mid_drop {α : Type} {f : α → List RV} {l : List α} {i : Nat} (h : i < l.length) : (l.drop i).map f = f l[i] :: (l.drop (i + 1)).map f := by rw [List.drop_eq_getElem_cons h]; rfl
end Go.Cap

/- What a side said: the plain law, and the contracts of TalkSaid. -/
namespace Go.Cap
open Go Go.Proofs
set_option maxRecDepth 100000
set_option linter.unusedSimpArgs false
set_option linter.unusedVariables false
attribute [local irreducible] Call Run Spec Le

structure Msg where
  stream : Int
  ssn : Int
  loose : Bool
  text : List UInt8
def Msg.row (d : Msg) : List RV := [.n .i64 d.stream, .n .i64 d.ssn, .b d.loose, .s d.text]
def Msg.av (d : Msg) : AV := .agg [.i d.stream, .i d.ssn, .bo d.loose, .st d.text]
/-- The messages that parts make up, and the text that is still open. -/
def saidStep (x : List Msg × List UInt8) (d : Data) : List Msg × List UInt8 :=
  if d.last then (x.1 ++ [⟨d.stream, d.ssn, d.loose, x.2 ++ d.text⟩], []) else (x.1, x.2 ++ d.text)
def saidSt (l : List Data) : List Msg × List UInt8 := l.foldl saidStep ([], [])
def said (l : List Data) : List Msg := (saidSt l).1
theorem saidSt_app (a b : List Data) : saidSt (a ++ b) = b.foldl saidStep (saidSt a) := by unfold saidSt; rw [List.foldl_append]
end Go.Cap

/- Contracts: a valid part, and which part may follow. -/
namespace Go.Cap
open Go Go.Proofs
set_option maxRecDepth 100000
set_option linter.unusedSimpArgs false
set_option linter.unusedVariables false
attribute [local irreducible] Call Run Spec Le

def dataB (d : Data) : Bool := serialB d.tsn && serialB d.stream && serialB d.ssn && decide (1 ≤ d.text.length ∧ d.text.length ≤ 20)
def likeB (a b : Data) : Bool := a.stream == b.stream && a.ssn == b.ssn && a.loose == b.loose
theorem like_comm (a b : Data) : likeB a b = likeB b a := by
  unfold likeB
  rw [Bool.beq_comm (a := a.loose), BEq.comm (a := a.stream), BEq.comm (a := a.ssn)]
theorem s_dataOk (d : Data) (h : d.text.length ≤ 9223372036854775807) : Spec Try.prog 110 0 [] [d.av] (fun r _ _ _ => r = .bo (dataB d)) := by
  refine mk110 rfl fun c hP hm => ?_
  unfold pc110 Data.av
  simp only [go_sem, ↓reduceIte]
  repeat' first | refine And.intro ?_ ?_ | intro _ | (refine c_serialOk hP ?_; simp only [go_sem, ↓reduceIte])
  all_goals (apply bo_inj; rw [Bool.eq_iff_iff]; simp [dataB, *] <;> omega)
theorem s_l12Data (d : Data) (h : d.text.length ≤ 9223372036854775807) : Spec Try.prog 140 0 [] [d.av] (fun r _ _ _ => r = .bo (dataB d)) := by
  refine mk140 rfl fun c hP hm => ?_
  unfold pc140 Data.av
  simp only [go_sem, ↓reduceIte]
  repeat' first | refine And.intro ?_ ?_ | intro _ | (refine c_l6In hP ?_; simp only [go_sem, ↓reduceIte]) | (refine c_l3Ok hP ?_; simp only [go_sem, ↓reduceIte])
  all_goals (apply bo_inj; rw [Bool.eq_iff_iff]; simp [dataB, inB, *] <;> omega)
theorem s_likeParts (a b : Data) : Spec Try.prog 159 0 [] [a.av, b.av] (fun r _ _ _ => r = .bo (likeB a b)) := by
  refine mk159 rfl fun c hP hm => ?_
  unfold pc159 Data.av
  simp only [go_sem, ↓reduceIte]
  repeat' first | refine And.intro ?_ ?_ | intro _
  all_goals (simp [likeB, *])
theorem s_l22Same (a b : Data) : Spec Try.prog 177 0 [] [a.av, b.av] (fun r _ _ _ => r = .bo (likeB a b)) := by
  refine mk177 rfl fun c hP hm => ?_
  unfold pc177 Data.av
  simp only [go_sem, ↓reduceIte]
  repeat' first | refine And.intro ?_ ?_ | intro _
  all_goals (simp [likeB, *])
/-- Which part may follow others. -/
def mayB (l : List Data) (d : Data) : Bool := match l.getLast? with
  | some x => if x.last then d.first && (d.loose || d.ssn == ssnIn l d.stream) else !d.first && likeB d x
  | none => d.first && (d.loose || d.ssn == ssnIn l d.stream)
theorem s_l31Follows (l : List Data) (d : Data) (hl : l.length ≤ 2000000) : Spec Try.prog 162 0 [] [.r (.ro none (l.map Data.row)), d.av] (fun r _ _ _ => r = .bo (mayB l d)) := by
  refine mk162 rfl fun c hP hm => ?_
  unfold pc162 Data.av
  rcases l.eq_nil_or_concat with rfl | ⟨l0, x, rfl⟩
  · simp only [go_sem, ↓reduceIte]
    repeat' first | refine And.intro ?_ ?_ | intro _ | (refine call_pure (hP ▸ s_l31Ssn [] d.stream (by decide)) rfl rfl ?_; simp only [go_sem, ↓reduceIte])
    all_goals (try (apply bo_inj; simp [mayB, *]))
  · rw [List.concat_eq_append] at hl ⊢
    have hlen : (l0 ++ [x]).length = l0.length + 1 := by simp
    have hlast : (l0 ++ [x]).getLast? = some x := by simp
    have hg : ((l0 ++ [x]).map Data.row).getD l0.length [] = [.n .i64 x.tsn, .n .i64 x.stream, .n .i64 x.ssn, .b x.first, .b x.last, .b x.loose, .s x.text] := by
      rw [List.map_append, List.map_cons]; exact mid_get (by simp)
    generalize hL : l0 ++ [x] = l at hl hlen hlast hg
    have e1 : IntKind.i64.wrap (((l0.length + 1 : Nat) : Int) - 1) = (l0.length : Int) := by rw [wrap64 (by omega) (by omega)]; omega
    simp only [hlen, e1, hg, Int.toNat_natCast, go_sem, ↓reduceIte]
    have hlike := like_comm d x
    repeat' first | refine And.intro ?_ ?_ | intro _ | (refine call_pure (hP ▸ s_l31Ssn l d.stream (by omega)) rfl rfl ?_; simp only [go_sem, ↓reduceIte]) | (refine call_pure (hP ▸ s_l22Same x d) rfl rfl ?_; simp only [hlen, e1, hg, Int.toNat_natCast, go_sem, ↓reduceIte])
    all_goals first
      | omega
      | (apply bo_inj; simp [mayB, *])
theorem loop_mayFollow {c : Cx} (hm : c.m = 0) (l : List Data) (d : Data) (hl : l.length ≤ 2000000) {s0 : St} {n r : St → Prop} {x : Nat → St → Prop}
    (hs : Le c s0 ⟨[(3, .ptr 0 0 0), (5, .i 0), (39, .r (.ro none (l.map Data.row))), (40, .i l.length), (41, .i 0)], [(0, .var [.i d.tsn, .i d.stream, .i d.ssn, .bo d.first, .bo d.last, .bo d.loose, .st d.text])], 1, []⟩)
    (hx : x 0 ⟨[(3, .ptr 0 0 0), (5, .i (ssnIn l d.stream))], [(0, .var [.i d.tsn, .i d.stream, .i d.ssn, .bo d.first, .bo d.last, .bo d.loose, .st d.text])], 1, []⟩) :
    Run c (.lp pc112l0) s0 n x r := by
  refine run_exit 0 (fun t0 => t0 = ⟨[(3, .ptr 0 0 0), (5, .i (ssnIn l d.stream))], [(0, .var [.i d.tsn, .i d.stream, .i d.ssn, .bo d.first, .bo d.last, .bo d.loose, .st d.text])], 1, []⟩) ?_ (fun t0 h => by rw [h]; exact hx)
  refine lp_wpc (α := Nat) (fun i => ⟨[(3, .ptr 0 0 0), (5, .i (ssnIn (l.take i) d.stream)), (39, .r (.ro none (l.map Data.row))), (40, .i l.length), (41, .i i)], [(0, .var [.i d.tsn, .i d.stream, .i d.ssn, .bo d.first, .bo d.last, .bo d.loose, .st d.text])], 1, []⟩)
    (fun i => i ≤ l.length) (fun i => l.length - i) 0 (Nat.zero_le _) hs ?_
  intro i hi
  unfold pc112l0
  rcases Nat.lt_or_ge i l.length with hil | hil
  · have hst := ssnIn_take hil d.stream
    have hle := ssnIn_le (l.take i) d.stream
    have htl : (l.take i).length ≤ l.length := by rw [List.length_take]; omega
    simp only [Int.toNat_natCast, getD_map hil, Data.row, hm, go_sem, ↓reduceIte]
    rw [wrap64 (x := (i : Int) + 1) (by omega) (by omega), wrap64 (x := (ssnIn (l.take i) d.stream : Int) + 1) (by omega) (by omega)]
    repeat' first | refine And.intro ?_ ?_ | intro _
    all_goals first
      | omega
      | (refine ⟨i + 1, hil, by omega, ?_⟩
         rw [hst]
         simp only [*, if_true, if_false, Bool.false_eq_true, and_self, true_and, false_and, and_false, reduceCtorEq, Nat.add_zero]
         exact le_ev [] (by simp only [hm, go_sem, ↓reduceIte]; first | rfl | exact ⟨rfl, rfl⟩))
  · have : i = l.length := by omega
    subst this
    simp only [go_sem, ↓reduceIte]
    exact ⟨_, rfl, le_ev [] (by simp only [hm, List.take_length, go_sem, ↓reduceIte])⟩
theorem s_mayFollow (l : List Data) (d : Data) (hl : l.length ≤ 2000000) : Spec Try.prog 112 0 [] [.r (.ro none (l.map Data.row)), d.av] (fun r _ _ _ => r = .bo (mayB l d)) := by
  refine mk112 rfl fun c hP hm => ?_
  unfold pc112 Data.av
  rcases l.eq_nil_or_concat with rfl | ⟨l0, x, rfl⟩
  · simp only [go_sem, ↓reduceIte]
    refine ⟨fun h => by apply bo_inj; simp [mayB, h], fun h => ⟨fun h2 => by apply bo_inj; simp [mayB, h, h2], fun h2 => ?_⟩⟩
    refine loop_mayFollow hm [] d (by decide) (le_ev [] (by simp only [hm, List.map_nil, go_sem, ↓reduceIte])) ?_
    simp only [go_sem, ↓reduceIte]
    apply bo_inj; simp [mayB, h, h2]
  · rw [List.concat_eq_append] at hl ⊢
    have hlen : (l0 ++ [x]).length = l0.length + 1 := by simp
    have hlast : (l0 ++ [x]).getLast? = some x := by simp
    have hg : ((l0 ++ [x]).map Data.row).getD l0.length [] = [.n .i64 x.tsn, .n .i64 x.stream, .n .i64 x.ssn, .b x.first, .b x.last, .b x.loose, .s x.text] := by
      rw [List.map_append, List.map_cons]; exact mid_get (by simp)
    generalize hL : l0 ++ [x] = l at hl hlen hlast hg
    have e1 : IntKind.i64.wrap (((l0.length + 1 : Nat) : Int) - 1) = (l0.length : Int) := by rw [wrap64 (by omega) (by omega)]; omega
    simp only [hlen, e1, hg, Int.toNat_natCast, go_sem, ↓reduceIte]
    repeat' first | refine And.intro ?_ ?_ | intro _ | (refine call_pure (hP ▸ s_likeParts d x) rfl rfl ?_; simp only [hlen, e1, hg, Int.toNat_natCast, go_sem, ↓reduceIte]) | (refine loop_mayFollow hm l d (by omega) (le_ev [] (by simp only [hm, hlen, go_sem, ↓reduceIte])) ?_; simp only [go_sem, ↓reduceIte])
    all_goals first
      | omega
      | (apply bo_inj; simp [mayB, *])
end Go.Cap

/- Contracts: a valid side, and what it said. -/
namespace Go.Cap
open Go Go.Proofs
set_option maxRecDepth 100000
set_option linter.unusedSimpArgs false
set_option linter.unusedVariables false
attribute [local irreducible] Call Run Spec Le

structure Side where
  tag : Int
  streams : Int
  first : Int
  sent : List Data
  acked : Int
def Side.av (s : Side) (x : AV) : AV := .agg [.i s.tag, .i s.streams, .i s.first, x, .i s.acked]
def Side.ro (s : Side) : AV := s.av (.r (.ro none (s.sent.map Data.row)))
def partB (add : Int → Int → Int) (s : Side) (i : Nat) (d : Data) : Bool := dataB d && d.tsn == add s.first i && decide (d.stream < s.streams) && mayB (s.sent.take i) d
def sideLoop (add : Int → Int → Int) (s : Side) : Nat → List Data → Bool
  | _, [] => true
  | i, d :: l => partB add s i d && sideLoop add s (i + 1) l
theorem sideLoop_drop {add : Int → Int → Int} {s : Side} {l : List Data} {i : Nat} (h : i < l.length) : sideLoop add s i (l.drop i) = (partB add s i l[i] && sideLoop add s (i + 1) (l.drop (i + 1))) := by
  rw [List.drop_eq_getElem_cons h]; rfl
def headB (s : Side) : Bool := decide (1 ≤ s.tag ∧ s.tag ≤ 4294967295) && decide (1 ≤ s.streams ∧ s.streams ≤ 4) && serialB s.first && decide (s.sent.length ≤ 12) && decide (0 ≤ s.acked ∧ s.acked ≤ s.sent.length)
def noneB (s : Side) : Bool := s.streams == 0 && s.first == 0 && decide (s.sent.length = 0) && s.acked == 0
def sideB (s : Side) : Bool := if s.tag = 0 then noneB s else headB s && sideLoop l3 s 0 s.sent
/-- The sum, as the reference reckons it for any first number. -/
def l3g (a n : Int) : Int := (IntKind.i64.wrap (IntKind.i64.wrap (a + n.tmod 65536) + 65536)).tmod 65536
theorem s_l3Add' (a n : Int) : Spec Try.prog 139 0 [] [.i a, .i n] (fun r _ _ _ => r = .i (l3g a n)) := by
  refine mk139 rfl fun c hP hm => ?_
  unfold pc139
  simp only [go_sem, ↓reduceIte]
  rfl
theorem l3g_eq {a n : Int} (ha : 0 ≤ a ∧ a < 65536) : l3g a n = l3 a n := by
  obtain ⟨h1, h2, h3⟩ := tmod64k n
  unfold l3g
  rw [wrap64 (x := a + n.tmod 65536) (by omega) (by omega), wrap64 (by omega) (by omega), Int.tmod_eq_emod_of_nonneg (by omega)]
  unfold l3
  omega
theorem sideLoop_congr {f g : Int → Int → Int} {s : Side} (h : ∀ n, f s.first n = g s.first n) : ∀ (i : Nat) (l : List Data), sideLoop f s i l = sideLoop g s i l
  | _, [] => rfl
  | i, d :: l => by simp only [sideLoop, partB, h, sideLoop_congr h (i + 1) l]

theorem s_SerialAdd1 (a n : Int) (h : serialB a = true) : Spec Try.prog 111 0 [] [.i a, .i n] (fun r _ _ _ => r = .i (l3 a n)) := by
  have := s_SerialAdd a n; rwa [if_pos h] at this
theorem loop_implSideValid {c : Cx} (hP : c.P = Try.prog) (hm : c.m = 0) (s : Side) (hl : s.sent.length ≤ 12) (hx : ∀ d ∈ s.sent, d.text.length ≤ 9223372036854775807) (hf : serialB s.first = true) {s0 : St} {n r : St → Prop} {x : Nat → St → Prop}
    (hs : Le c s0 ⟨[(1, .ptr 0 0 0), (71, .r (.ro none (s.sent.map Data.row))), (72, .i s.sent.length), (73, .i 0)], [(0, .var [.i s.tag, .i s.streams, .i s.first, .r (.ro none (s.sent.map Data.row)), .i s.acked])], 1, []⟩)
    (hr : sideLoop l3 s 0 s.sent = false → ∀ hp nx gs, r ⟨[(2, .r (.b false))], hp, nx, gs⟩)
    (hx0 : sideLoop l3 s 0 s.sent = true → x 0 ⟨[], [], 1, []⟩) :
    Run c (.lp pc52l0) s0 n x r := by
  refine run_exit 0 (fun t0 => t0 = ⟨[], [], 1, []⟩ ∧ sideLoop l3 s 0 s.sent = true) ?_ (fun t0 h => by rw [h.1]; exact hx0 h.2)
  refine lp_wpc (α := Nat) (fun i => ⟨[(1, .ptr 0 0 0), (71, .r (.ro none (s.sent.map Data.row))), (72, .i s.sent.length), (73, .i i)], [(0, .var [.i s.tag, .i s.streams, .i s.first, .r (.ro none (s.sent.map Data.row)), .i s.acked])], 1, []⟩)
    (fun i => i ≤ s.sent.length ∧ sideLoop l3 s i (s.sent.drop i) = sideLoop l3 s 0 s.sent) (fun i => s.sent.length - i) 0 ⟨Nat.zero_le _, rfl⟩ hs ?_
  rintro i ⟨hi, hI⟩
  unfold pc52l0
  rcases Nat.lt_or_ge i s.sent.length with hil | hil
  · rw [sideLoop_drop hil] at hI
    have hd := hx _ (List.getElem_mem hil)
    simp only [Int.toNat_natCast, getD_map hil, Data.row, hm, go_sem, ↓reduceIte]
    generalize s.sent[i] = d at hI hd
    repeat' first | refine And.intro ?_ ?_ | intro _ | (refine call_pure (hP ▸ s_dataOk d hd) rfl rfl ?_; simp only [Int.toNat_natCast, getD_map hil, hm, go_sem, ↓reduceIte]) | (refine call_pure (hP ▸ s_SerialAdd1 s.first i hf) rfl rfl ?_; simp only [Int.toNat_natCast, getD_map hil, ← List.map_take, hm, go_sem, ↓reduceIte]) | (refine call_pure (hP ▸ s_mayFollow (s.sent.take i) d (by rw [List.length_take]; omega)) rfl rfl ?_; simp only [Int.toNat_natCast, getD_map hil, hm, go_sem, ↓reduceIte])
    all_goals first
      | omega
      | (rename_i h; obtain ⟨_, _, rfl⟩ := List.mem_map.1 h; rfl)
      | (refine hr ?_ _ _ _; rw [← hI]; simp [partB, *]; done)
      | (rename_i h; have h' := Int.not_lt.2 h; refine hr ?_ _ _ _; rw [← hI]; simp [partB, h']; done)
      | (refine ⟨i + 1, ⟨hil, ?_⟩, by omega, ?_⟩
         · rw [← hI]; simp [partB, *]
         · rw [wrap64 (by omega) (by omega)]
           exact le_ev [] (by simp only [hm, go_sem, ↓reduceIte]; rfl))
  · have : i = s.sent.length := by omega
    subst this
    rw [List.drop_eq_nil_of_le (Nat.le_refl _)] at hI
    simp only [go_sem, ↓reduceIte]
    exact ⟨_, ⟨rfl, hI.symm⟩, le_ev [] (by simp only [hm, go_sem, ↓reduceIte])⟩
theorem loop_specSideValid {c : Cx} (hP : c.P = Try.prog) (hm : c.m = 0) (s : Side) (hl : s.sent.length ≤ 2000000) (hx : ∀ d ∈ s.sent, d.text.length ≤ 9223372036854775807) {s0 : St} {n r : St → Prop} {x : Nat → St → Prop}
    (hs : Le c s0 ⟨[(1, .ptr 0 0 0), (3, .i 0)], [(0, .var [.i s.tag, .i s.streams, .i s.first, .r (.ro none (s.sent.map Data.row)), .i s.acked])], 1, []⟩)
    (hr : sideLoop l3g s 0 s.sent = false → ∀ hp nx gs, r ⟨[(2, .r (.b false))], hp, nx, gs⟩)
    (hx0 : sideLoop l3g s 0 s.sent = true → x 0 ⟨[(1, .ptr 0 0 0)], [(0, .var [.i s.tag, .i s.streams, .i s.first, .r (.ro none (s.sent.map Data.row)), .i s.acked])], 1, []⟩) :
    Run c (.lp pc117l0) s0 n x r := by
  refine run_exit 0 (fun t0 => t0 = ⟨[(1, .ptr 0 0 0)], [(0, .var [.i s.tag, .i s.streams, .i s.first, .r (.ro none (s.sent.map Data.row)), .i s.acked])], 1, []⟩ ∧ sideLoop l3g s 0 s.sent = true) ?_ (fun t0 h => by rw [h.1]; exact hx0 h.2)
  refine lp_wpc (α := Nat) (fun i => ⟨[(1, .ptr 0 0 0), (3, .i i)], [(0, .var [.i s.tag, .i s.streams, .i s.first, .r (.ro none (s.sent.map Data.row)), .i s.acked])], 1, []⟩)
    (fun i => i ≤ s.sent.length ∧ sideLoop l3g s i (s.sent.drop i) = sideLoop l3g s 0 s.sent) (fun i => s.sent.length - i) 0 ⟨Nat.zero_le _, rfl⟩ hs ?_
  rintro i ⟨hi, hI⟩
  unfold pc117l0
  rcases Nat.lt_or_ge i s.sent.length with hil | hil
  · rw [sideLoop_drop hil] at hI
    have hd := hx _ (List.getElem_mem hil)
    simp only [Int.toNat_natCast, getD_map hil, Data.row, hm, go_sem, ↓reduceIte]
    generalize s.sent[i] = d at hI hd
    repeat' first | refine And.intro ?_ ?_ | intro _ | (refine call_pure (hP ▸ s_l12Data d hd) rfl rfl ?_; simp only [Int.toNat_natCast, getD_map hil, hm, go_sem, ↓reduceIte]) | (refine call_pure (hP ▸ s_l3Add' s.first i) rfl rfl ?_; simp only [Int.toNat_natCast, getD_map hil, ← List.map_take, hm, go_sem, ↓reduceIte]) | (refine call_pure (hP ▸ s_l31Follows (s.sent.take i) d (by rw [List.length_take]; omega)) rfl rfl ?_; simp only [Int.toNat_natCast, getD_map hil, hm, go_sem, ↓reduceIte])
    all_goals first
      | omega
      | (rename_i h; obtain ⟨_, _, rfl⟩ := List.mem_map.1 h; rfl)
      | (refine hr ?_ _ _ _; rw [← hI]; simp [partB, *]; done)
      | (rename_i h; have h' := Int.not_lt.2 h; refine hr ?_ _ _ _; rw [← hI]; simp [partB, h']; done)
      | (refine ⟨i + 1, ⟨hil, ?_⟩, by omega, ?_⟩
         · rw [← hI]; simp [partB, *]
         · rw [wrap64 (by omega) (by omega)]
           exact le_ev [] (by simp only [hm, go_sem, ↓reduceIte]; rfl))
  · have : i = s.sent.length := by omega
    subst this
    rw [List.drop_eq_nil_of_le (Nat.le_refl _)] at hI
    simp only [go_sem, ↓reduceIte]
    exact fun _ => ⟨_, ⟨rfl, hI.symm⟩, le_ev [] (by simp only [hm, go_sem, ↓reduceIte])⟩
theorem s_implSideValid (s : Side) (hl : s.sent.length ≤ 2000000) (hx : ∀ d ∈ s.sent, d.text.length ≤ 9223372036854775807) : Spec Try.prog 52 0 [] [s.ro] (fun r _ _ _ => r = .bo (sideB s)) := by
  refine mk52 rfl fun c hP hm => ?_
  unfold pc52 Side.ro Side.av
  simp only [go_sem, ↓reduceIte]
  repeat' first | refine And.intro ?_ ?_ | intro _ | (refine c_serialOk hP ?_; simp only [go_sem, ↓reduceIte])
  all_goals first
    | (apply bo_inj; rw [Bool.eq_iff_iff]; simp [sideB, noneB, headB, *] <;> omega)
    | (apply bo_inj; rw [Bool.eq_iff_iff]; simp only [sideB, noneB, if_pos (by assumption : s.tag = 0), Bool.and_eq_true, beq_iff_eq, decide_eq_true_eq, Bool.false_eq_true, false_iff]; omega)
    | (refine loop_implSideValid hP hm s (by omega) hx (by assumption) (le_ev [] (by simp only [hm, go_sem, ↓reduceIte])) ?_ ?_
       · intro hf hp nx gs
         simp only [go_sem, ↓reduceIte]
         apply bo_inj; simp [sideB, hf, *]
       · intro hf
         simp only [go_sem, ↓reduceIte]
         apply bo_inj; rw [Bool.eq_iff_iff]; simp [sideB, headB, *]; omega)
theorem s_specSideValid (s : Side) (hl : s.sent.length ≤ 2000000) (hx : ∀ d ∈ s.sent, d.text.length ≤ 9223372036854775807) : Spec Try.prog 117 0 [] [s.ro] (fun r _ _ _ => r = .bo (sideB s)) := by
  refine mk117 rfl fun c hP hm => ?_
  unfold pc117 Side.ro Side.av
  simp only [go_sem, ↓reduceIte]
  have key : serialB s.first = true → sideLoop l3g s 0 s.sent = sideLoop l3 s 0 s.sent := fun h => sideLoop_congr (fun n => l3g_eq (by simpa [serialB] using h)) _ _
  repeat' first | refine And.intro ?_ ?_ | intro _
  all_goals first
    | (apply bo_inj; rw [Bool.eq_iff_iff]; simp [sideB, noneB, *] <;> omega)
    | (apply bo_inj; rw [Bool.eq_iff_iff]; simp only [sideB, noneB, if_pos (by assumption : s.tag = 0), Bool.and_eq_true, beq_iff_eq, decide_eq_true_eq, Bool.false_eq_true, false_iff]; omega)
    | (refine loop_specSideValid hP hm s hl hx (le_ev [] (by simp only [hm, go_sem, ↓reduceIte])) ?_ ?_
       · intro hf hp nx gs
         simp only [go_sem, ↓reduceIte]
         apply bo_inj
         cases hser : serialB s.first
         · simp [sideB, headB, hser, *]
         · rw [key hser] at hf; simp [sideB, hf, *]
       · intro hf
         simp only [go_sem, ↓reduceIte]
         repeat' first | refine And.intro ?_ ?_ | intro _ | (refine c_l6In hP ?_; simp only [go_sem, ↓reduceIte]) | (refine c_l3Ok hP ?_; simp only [go_sem, ↓reduceIte])
         all_goals first
           | omega
           | (apply bo_inj; rw [Bool.eq_iff_iff]; simp only [inB, Bool.and_eq_true, decide_eq_true_eq, decide_eq_false_iff_not] at *; simp only [sideB, headB, if_neg (by assumption : ¬ s.tag = 0), Bool.and_eq_true, decide_eq_true_eq, Bool.false_eq_true, false_iff]; first
              | (have hk := key (by assumption); rw [hk] at hf; simp only [hf, *, and_true, true_and]; omega)
              | (simp only [*, Bool.false_eq_true, false_and, and_false, not_false_eq_true]; done)
              | omega))
end Go.Cap

/- Contracts: TalkSaid of the program and of the reference. -/
namespace Go.Cap
open Go Go.Proofs
set_option maxRecDepth 100000
set_option linter.unusedSimpArgs false
set_option linter.unusedVariables false
attribute [local irreducible] Call Run Spec Le

def cntR (f : List Data) : List RV := [.n .i64 (ssnIn f 0), .n .i64 (ssnIn f 1), .n .i64 (ssnIn f 2), .n .i64 (ssnIn f 3)]
@[go_sem] theorem cnt_len (f : List Data) : (cnt f).length = 4 := (rfl)
@[go_sem] theorem cntR_len (f : List Data) : (cntR f).length = 4 := (rfl)
end Go.Cap

/- Contracts: SideSaid of the program and of the reference. -/
namespace Go.Cap
open Go Go.Proofs
set_option maxRecDepth 100000
set_option linter.unusedSimpArgs false
set_option linter.unusedVariables false
attribute [local irreducible] Call Run Spec Le

theorem sideLoop_may {add : Int → Int → Int} {s : Side} : ∀ (l : List Data) (i : Nat), sideLoop add s i l = true → ∀ j (hj : j < l.length), partB add s (i + j) l[j] = true
  | [], i, h, j, hj => by simp at hj
  | d :: l, i, h, 0, hj => by simp only [sideLoop, Bool.and_eq_true] at h; exact h.1
  | d :: l, i, h, j + 1, hj => by
    simp only [sideLoop, Bool.and_eq_true] at h
    have := sideLoop_may l (i + 1) h.2 j (by simpa using hj)
    simpa [Nat.add_assoc, Nat.add_comm 1 j] using this
end Go.Cap

/- The parts of a talk are those of a valid side. -/
namespace Go.Cap
open Go Go.Proofs
set_option maxRecDepth 100000
set_option linter.unusedSimpArgs false
set_option linter.unusedVariables false
attribute [local irreducible] Call Run Spec Le

theorem mayB_first {f : List Data} {d : Data} (hl : ∀ x, f.getLast? = some x → x.last = true) (hd : d.first = true) (hs : d.loose = true ∨ d.ssn = ssnIn f d.stream) : mayB f d = true := by
  unfold mayB
  cases h : f.getLast? with
  | none => simp [hd]; rcases hs with hs | hs <;> simp [hs]
  | some x =>
    have := hl x h
    simp only [this, if_true]
    simp [hd]; rcases hs with hs | hs <;> simp [hs]
theorem mayB_next {f : List Data} {x d : Data} (hl : f.getLast? = some x) (hx : x.last = false) (hd : d.first = false) (hk : likeB d x = true) : mayB f d = true := by
  unfold mayB
  rw [hl]
  simp [hx, hd, hk]
/-- Every part may follow the ones ahead of it. -/
structure Fit (f : Int) (streams : Int) (out : List Data) : Prop where
  ok : ∀ i (hi : i < out.length), dataB out[i] = true ∧ out[i].tsn = l3 f i ∧ out[i].stream < streams ∧ mayB (out.take i) out[i] = true
  last : ∀ x, out.getLast? = some x → x.last = true
theorem Fit.next {z : Nat} (hz : 1 ≤ z ∧ z ≤ 20) {f streams : Int} {out : List Data} (h : Fit f streams out) (ho : out.length ≤ 60000) {s : Say} (h1 : 1 ≤ s.text.length) (hs : 0 ≤ s.stream ∧ s.stream < streams) (hs4 : streams ≤ 4) : Fit f streams (out ++ nextParts z f out s) := by
  have hnl : (nextParts z f out s).length = manyN s.text.length z := nextParts_len ..
  refine ⟨fun i hi => ?_, fun x hx => ?_⟩
  · rcases Nat.lt_or_ge i out.length with hio | hio
    · rw [List.getElem_append_left hio, List.take_append_of_le_length (by omega)]
      exact h.ok i hio
    · obtain ⟨j, rfl⟩ : ∃ j, i = out.length + j := ⟨i - out.length, by omega⟩
      have hj : j < manyN s.text.length z := by rw [List.length_append, hnl] at hi; omega
      have hget : (out ++ nextParts z f out s)[out.length + j] = part z (l3 f out.length) (ssnOf out s) s j := by
        have h2 : (out ++ nextParts z f out s)[out.length + j]? = some (part z (l3 f out.length) (ssnOf out s) s j) := by
          rw [List.getElem?_append_right (by omega), Nat.add_sub_cancel_left]; exact chunks_get hj
        rw [List.getElem?_eq_getElem hi] at h2
        exact Option.some.inj h2
      have htake : (out ++ nextParts z f out s).take (out.length + j) = out ++ (nextParts z f out s).take j := by
        rw [List.take_append, List.take_of_length_le (by omega), Nat.add_sub_cancel_left]
      rw [hget, htake]
      have hlt := (many_lt hz.1).1 hj
      have hadd : (j + 1) * z = j * z + z := by rw [Nat.add_mul, Nat.one_mul]
      have hssn := ssnIn_le out s.stream
      have hrange := l3_range (l3 f out.length) j
      refine ⟨?_, ?_, hs.2, ?_⟩
      · have k1 : serialB (l3 (l3 f out.length) j) = true := serial_l3 _ _
        have k2 : serialB s.stream = true := by simp only [serialB, decide_eq_true_eq]; omega
        have k3 : serialB (ssnOf out s) = true := by unfold ssnOf; simp only [serialB, decide_eq_true_eq]; split <;> omega
        have k4 : 1 ≤ (part z (l3 f out.length) (ssnOf out s) s j).text.length ∧ (part z (l3 f out.length) (ssnOf out s) s j).text.length ≤ 20 := by
          simp only [part, List.length_drop, List.length_take]; omega
        unfold dataB
        rw [decide_eq_true k4]
        show (serialB (l3 (l3 f out.length) j) && serialB s.stream && serialB (ssnOf out s) && true) = true
        rw [k1, k2, k3]; rfl
      · simp only [part, l3_l3]; congr 1
      · cases j with
        | zero =>
          rw [List.take_zero, List.append_nil]
          refine mayB_first h.last (by simp [part]) ?_
          simp only [part, ssnOf]
          cases s.loose <;> simp
        | succ j =>
          have hj' : j < manyN s.text.length z := by omega
          refine mayB_next (x := part z (l3 f out.length) (ssnOf out s) s j) ?_ ?_ (by simp [part]) (by simp [likeB, part])
          · rw [show (nextParts z f out s).take (j + 1) = (nextParts z f out s).take j ++ [part z (l3 f out.length) (ssnOf out s) s j] from take_chunks hj', ← List.append_assoc]
            exact List.getLast?_concat
          · simp only [part, decide_eq_false_iff_not]; omega
  · have hm : 0 < manyN s.text.length z := (many_lt hz.1).2 (by omega)
    obtain ⟨m, hmm⟩ : ∃ m, manyN s.text.length z = m + 1 := ⟨manyN s.text.length z - 1, by omega⟩
    have hn : ¬ (m + 1) * z < s.text.length := fun h => by have := (many_lt hz.1).2 h; omega
    unfold nextParts chunks at hx
    rw [hmm, List.range_succ, List.map_append, ← List.append_assoc, List.map_cons, List.map_nil, List.getLast?_concat] at hx
    cases hx
    simp only [part, decide_eq_true_eq]; omega
theorem sideLoop_of {add : Int → Int → Int} {s : Side} : ∀ (l : List Data) (i : Nat), (∀ j (hj : j < l.length), partB add s (i + j) l[j] = true) → sideLoop add s i l = true
  | [], i, h => rfl
  | d :: l, i, h => by
    simp only [sideLoop, Bool.and_eq_true]
    refine ⟨h 0 (by simp), sideLoop_of l (i + 1) fun j hj => ?_⟩
    have := h (j + 1) (by simpa using hj)
    simpa [Nat.add_assoc, Nat.add_comm 1 j] using this
end Go.Cap

/- Plain model: numbers as bytes, sums, chunks, packets, records. -/
namespace Go.Cap
open Go Go.Proofs
set_option linter.unusedSimpArgs false
set_option linter.unusedVariables false

def u8 (x : Int) : UInt8 := UInt8.ofNat x.toNat
def word (n : Int) : List UInt8 := [u8 (n / 256), u8 (n % 256)]
def long (n : Int) : List UInt8 := word (n / 65536) ++ word (n % 65536)
def at2 (s : List UInt8) (i : Nat) : Int := 256 * (s.getD i 0).toNat + (s.getD (i + 1) 0).toNat
theorem byte_lt (b : UInt8) : (b.toNat : Int) < 256 := by have := b.toNat_lt; omega
theorem at2_range (s : List UInt8) (i : Nat) : 0 ≤ at2 s i ∧ at2 s i < 65536 := by
  have h1 := byte_lt (s.getD i 0)
  have h2 := byte_lt (s.getD (i + 1) 0)
  unfold at2; omega
structure Chunk where
  kind : Int
  flags : Int
  body : List UInt8
  deriving Inhabited
def Chunk.row (c : Chunk) : List RV := [.n .i64 c.kind, .n .i64 c.flags, .s c.body]
def Chunk.av (c : Chunk) : AV := .agg [.i c.kind, .i c.flags, .st c.body]
def chunkB (c : Chunk) : Bool := inB c.kind 0 255 && inB c.flags 0 255 && decide (c.body.length ≤ 60)
structure Packet where
  fr : Int
  to : Int
  tag : Int
  chunks : List Chunk
  deriving Inhabited
def Packet.ro (p : Packet) : AV := .agg [.i p.fr, .i p.to, .i p.tag, .r (.ro none (p.chunks.map Chunk.row))]
def Packet.row (p : Packet) : List RV := [.n .i64 p.fr, .n .i64 p.to, .n .i64 p.tag, .ro none (p.chunks.map Chunk.row)]
def packB (p : Packet) : Bool := inB p.fr 1 65535 && inB p.to 1 65535 && decide (p.fr ≠ p.to) && inB p.tag 0 4294967295 && decide (1 ≤ p.chunks.length ∧ p.chunks.length ≤ 4) && p.chunks.all chunkB
structure Gap where
  fr : Int
  to : Int
  deriving Inhabited
def Gap.row (g : Gap) : List RV := [.n .i64 g.fr, .n .i64 g.to]
structure Sack where
  cum : Int
  gaps : List Gap
  deriving Inhabited
def gapsB : Int → List Gap → Bool
  | _, [] => true
  | last, g :: l => decide (last + 2 ≤ g.fr ∧ g.fr ≤ g.to ∧ g.to ≤ 16) && gapsB g.to l
def sackB (s : Sack) : Bool := serialB s.cum && decide (s.gaps.length ≤ 8) && gapsB 0 s.gaps
/-- All parts of a talk, in the order in which they are said, with their sides. -/
def talkAll (z : Nat) (ta tb : Int) : List Say → List Data → List Data → List (Bool × Data)
  | [], _, _ => []
  | s :: l, oa, ob => if s.byB then (nextParts z tb ob s).map (fun d => (true, d)) ++ talkAll z ta tb l oa (ob ++ nextParts z tb ob s)
    else (nextParts z ta oa s).map (fun d => (false, d)) ++ talkAll z ta tb l (oa ++ nextParts z ta oa s) ob
def Talk.all (t : Talk) : List (Bool × Data) := talkAll t.size.toNat t.a.tsn t.b.tsn t.says [] []
structure Rec where
  time : Int
  text : List UInt8
  deriving Inhabited
def Rec.row (x : Rec) : List RV := [.n .i64 x.time, .s x.text]
def Rec.av (x : Rec) : AV := .agg [.i x.time, .st x.text]
end Go.Cap

/- Plain model: associations, findings, monitors; reading packets. -/
namespace Go.Cap
open Go Go.Proofs
set_option linter.unusedSimpArgs false
set_option linter.unusedVariables false

structure Assoc where
  fr : Int
  to : Int
  state : Int
  byB : Bool
  a : Side
  b : Side
def Assoc.cellsX (a : Assoc) (x y : RV) : List RV := [.n .i64 a.fr, .n .i64 a.to, .n .i64 a.state, .b a.byB, .n .i64 a.a.tag, .n .i64 a.a.streams, .n .i64 a.a.first, x, .n .i64 a.a.acked, .n .i64 a.b.tag, .n .i64 a.b.streams, .n .i64 a.b.first, y, .n .i64 a.b.acked]
def Assoc.row (a : Assoc) : List RV := a.cellsX (.ro none (a.a.sent.map Data.row)) (.ro none (a.b.sent.map Data.row))
def Assoc.av (a : Assoc) (x y : AV) : AV := .agg [.i a.fr, .i a.to, .i a.state, .bo a.byB, .i a.a.tag, .i a.a.streams, .i a.a.first, x, .i a.a.acked, .i a.b.tag, .i a.b.streams, .i a.b.first, y, .i a.b.acked]
def Assoc.ro (a : Assoc) : AV := a.av (.r (.ro none (a.a.sent.map Data.row))) (.r (.ro none (a.b.sent.map Data.row)))
def assocB (a : Assoc) : Bool :=
  inB a.fr 1 65535 && inB a.to 1 65535 && decide (a.fr ≠ a.to) && inB a.state 0 7 && sideB a.a && sideB a.b && (decide (0 < a.a.tag) == decide (1 ≤ a.state)) &&
  (decide (a.state = 7) || (decide (0 < a.b.tag) == decide (2 ≤ a.state))) && (decide (3 ≤ a.state) || decide (a.a.sent.length + a.b.sent.length = 0)) && (!a.byB || decide (5 ≤ a.state))
theorem assocB_iff {a : Assoc} : assocB a = true ↔ (1 ≤ a.fr ∧ a.fr ≤ 65535) ∧ (1 ≤ a.to ∧ a.to ≤ 65535) ∧ a.fr ≠ a.to ∧ (0 ≤ a.state ∧ a.state ≤ 7) ∧ sideB a.a = true ∧ sideB a.b = true ∧ (0 < a.a.tag ↔ 1 ≤ a.state) ∧
    (a.state = 7 ∨ (0 < a.b.tag ↔ 2 ≤ a.state)) ∧ (3 ≤ a.state ∨ a.a.sent.length + a.b.sent.length = 0) ∧ (a.byB = false ∨ 5 ≤ a.state) := by
  simp only [assocB, inB, Bool.and_eq_true, Bool.or_eq_true, decide_eq_true_eq, beq_iff_eq, decide_eq_decide, Bool.not_eq_true']
  constructor
  · rintro ⟨⟨⟨⟨⟨⟨⟨⟨⟨h1, h2⟩, h3⟩, h4⟩, h5⟩, h6⟩, h7⟩, h8⟩, h9⟩, h10⟩
    exact ⟨h1, h2, h3, h4, h5, h6, h7, h8, h9, h10⟩
  · rintro ⟨h1, h2, h3, h4, h5, h6, h7, h8, h9, h10⟩
    exact ⟨⟨⟨⟨⟨⟨⟨⟨⟨h1, h2⟩, h3⟩, h4⟩, h5⟩, h6⟩, h7⟩, h8⟩, h9⟩, h10⟩
structure Fnd where
  rcd : Int
  code : Int
  deriving Inhabited
def Fnd.row (f : Fnd) : List RV := [.n .i64 f.rcd, .n .i64 f.code]
def Fnd.av (f : Fnd) : AV := .agg [.i f.rcd, .i f.code]
structure Mon where
  records : Int
  list : List Assoc
  found : List Fnd
def Mon.ro (m : Mon) : AV := .agg [.i m.records, .r (.ro none (m.list.map Assoc.row)), .r (.ro none (m.found.map Fnd.row))]
def noSide : Side := ⟨0, 0, 0, [], 0⟩
def noAssoc : Assoc := ⟨0, 0, 0, false, noSide, noSide⟩
end Go.Cap

/- Plain model: reading chunks and packets; steps of associations and monitors. -/
namespace Go.Cap
open Go Go.Proofs
set_option linter.unusedSimpArgs false
set_option linter.unusedVariables false

def at4 (s : List UInt8) (i : Nat) : Int := 65536 * at2 s i + at2 s (i + 2)
def aloneK (k : Int) : Bool := decide (k = 1 ∨ k = 2 ∨ k = 14)
def aloneB (p : Packet) : Bool := packB p && (decide (p.chunks.length = 1) || p.chunks.all fun c => !aloneK c.kind)
def noData : Data := ⟨0, 0, 0, false, false, false, []⟩
def dataOf (c : Chunk) : Data := ⟨at2 c.body 0, at2 c.body 2, at2 c.body 4, decide (c.flags / 2 % 2 = 1), decide (c.flags % 2 = 1), decide (c.flags / 4 = 1), c.body.drop 6⟩
def dataGet (c : Chunk) : Option Data := if decide (c.kind = 0) && inB c.flags 0 7 && decide (6 ≤ c.body.length) && dataB (dataOf c) then some (dataOf c) else none
def noInit : Init := ⟨0, 0, 0, 0⟩
def initOf (c : Chunk) : Init := ⟨at4 c.body 0, at2 c.body 4, at2 c.body 6, at2 c.body 8⟩
def initGet (c : Chunk) : Option Init := if decide (c.kind = 1 ∨ c.kind = 2) && decide (c.flags = 0) && decide (c.body.length = 10) && initB (initOf c) then some (initOf c) else none
def gapsOf : List UInt8 → List Gap
  | a :: b :: c :: d :: l => ⟨256 * a.toNat + b.toNat, 256 * c.toNat + d.toNat⟩ :: gapsOf l
  | _ => []
def sackOf (c : Chunk) : Sack := ⟨at2 c.body 0, gapsOf (c.body.drop 2)⟩
def sackGet (c : Chunk) : Option Sack := if decide (c.kind = 3) && decide (c.flags = 0) && decide (c.body.length % 4 = 2) && sackB (sackOf c) then some (sackOf c) else none
/-- Steps of an association. -/
def Assoc.own (a : Assoc) (byB : Bool) : Side := if byB then a.b else a.a
def Assoc.other (a : Assoc) (byB : Bool) : Side := if byB then a.a else a.b
def Assoc.put (a : Assoc) (byB : Bool) (s : Side) : Assoc := if byB then { a with b := s } else { a with a := s }
def l3d (a b : Int) : Int := if 32768 < l3 b (-a) then l3 b (-a) - 65536 else l3 b (-a)
def stepInit (a : Assoc) (byB : Bool) (c : Chunk) : Assoc × Int :=
  let first := (decide (a.state = 0) && !byB && decide (c.kind = 1)) || (decide (a.state = 1) && byB && decide (c.kind = 2))
  let again := (inB a.state 1 2 && !byB && decide (c.kind = 1)) || (decide (a.state = 2) && byB && decide (c.kind = 2))
  if !first && !again then (a, 3)
  else match initGet c with
    | none => (a, 4)
    | some x => if again then (if x.tag ≠ (a.own byB).tag ∨ x.streams ≠ (a.own byB).streams ∨ x.tsn ≠ (a.own byB).first then (a, 7) else (a, 0))
      else (({ a with state := a.state + 1 } : Assoc).put byB ⟨x.tag, x.streams, x.tsn, [], 0⟩, 0)
/-- Two parts that are alike in all. -/
def eqData (x y : Data) : Bool := x.tsn == y.tsn && (x.stream == y.stream && (x.ssn == y.ssn && (x.first == y.first && (x.last == y.last && (x.loose == y.loose && x.text == y.text)))))
def stepData (a : Assoc) (byB : Bool) (c : Chunk) : Assoc × Int :=
  let s := a.own byB
  let mayNew := decide (a.state = 4) || (decide (a.state = 3) && !byB)
  let mayOld := mayNew || (decide (a.state = 5) && byB != a.byB)
  if !mayOld then (a, 3)
  else match dataGet c with
    | none => (a, 4)
    | some d =>
      let k := l3 d.tsn (-s.first)
      if k < s.sent.length then (if eqData (s.sent.getD k.toNat noData) d then (a, 0) else (a, 7))
      else if !mayNew then (a, 3)
      else if s.streams ≤ d.stream then (a, 5)
      else if s.sent.length < k then (a, 6)
      else if !mayB s.sent d then (a, 8)
      else if 12 ≤ s.sent.length then (a, 11)
      else (a.put byB { s with sent := s.sent ++ [d] }, 0)
def lastTo (l : List Gap) : Int := match l.getLast? with | none => 0 | some g => g.to
def stepSack (a : Assoc) (byB : Bool) (c : Chunk) : Assoc × Int :=
  let o := a.other byB
  if !inB a.state 4 5 then (a, 3)
  else match sackGet c with
    | none => (a, 4)
    | some x =>
      let e := l3d (l3 o.first (-1)) x.cum
      if !inB e 0 o.sent.length || decide ((o.sent.length : Int) < e + lastTo x.gaps) then (a, 9)
      else (a.put (!byB) { o with acked := max o.acked e }, 0)
def stepEnd (a : Assoc) (byB : Bool) (k : Int) : Assoc × Int :=
  let s := a.own byB
  let done := decide (s.acked = s.sent.length)
  if k = 6 then (if inB a.state 1 6 then ({ a with state := 7 }, 0) else (a, 3))
  else if k = 7 then (if a.state = 4 then (if done then ({ a with state := 5, byB := byB }, 0) else (a, 10)) else if inB a.state 5 6 && byB == a.byB then (a, 0) else (a, 3))
  else if k = 8 then (if inB a.state 5 6 && byB != a.byB then (if a.state = 5 && !done then (a, 10) else ({ a with state := 6 }, 0)) else (a, 3))
  else (if a.state = 6 && byB == a.byB then ({ a with state := 7 }, 0) else (a, 3))
def stepRest (a : Assoc) (byB : Bool) (k : Int) : Assoc × Int :=
  if k = 10 then (if !byB && inB a.state 2 4 then ({ a with state := max a.state 3 }, 0) else (a, 3))
  else if k = 11 then (if byB && inB a.state 3 4 then ({ a with state := 4 }, 0) else (a, 3))
  else if k = 4 ∨ k = 5 ∨ k = 9 then (if inB a.state 3 6 then (a, 0) else (a, 3))
  else (a, 3)
def stepChunk (a : Assoc) (byB : Bool) (c : Chunk) : Assoc × Int :=
  if c.kind = 1 ∨ c.kind = 2 then stepInit a byB c
  else if c.kind = 0 then stepData a byB c
  else if c.kind = 3 then stepSack a byB c
  else if c.kind = 6 ∨ c.kind = 7 ∨ c.kind = 8 ∨ c.kind = 14 then stepEnd a byB c.kind
  else stepRest a byB c.kind
def stepChunks (byB : Bool) : List Chunk → Assoc → List Int → Assoc × List Int
  | [], a, rs => (a, rs)
  | c :: l, a, rs => stepChunks byB l (stepChunk a byB c).1 (rs ++ [(stepChunk a byB c).2])
def tagOf (a : Assoc) (byB : Bool) (p : Packet) : Int := if p.chunks.any (fun c => decide (c.kind = 1)) then 0 else (a.other byB).tag
def brokenB (a : Assoc) (byB : Bool) (p : Packet) (rs : List Int) (k : Nat) : Bool := (k == 1 && !aloneB p) || (k == 2 && decide (p.tag ≠ tagOf a byB p)) || rs.contains (k : Int)
def rulesOf (b : Nat → Bool) : List Int := ((List.range 12).filter fun k => decide (1 ≤ k) && b k).map fun (k : Nat) => (k : Int)
def byBOf (a : Assoc) (p : Packet) : Bool := decide (p.fr = a.to ∧ p.to = a.fr)
def assocStep (a : Assoc) (p : Packet) : Assoc × List Int :=
  if !assocB a || !packB p || (!byBOf a p && decide (p.fr ≠ a.fr ∨ p.to ≠ a.to)) then (noAssoc, [])
  else
    let x := stepChunks (byBOf a p) p.chunks a []
    let rules := rulesOf (brokenB a (byBOf a p) p x.2)
    (if rules.isEmpty then x.1 else a, rules)
end Go.Cap

/- Contracts: where a part lies; a valid assembly. -/
namespace Go.Cap
open Go Go.Proofs
set_option maxRecDepth 100000
set_option linter.unusedSimpArgs false
set_option linter.unusedVariables false
attribute [local irreducible] Call Run Spec Le

/-- The index of the first part with a number. -/
def atIx : List Data → Int → Option Nat
  | [], _ => none
  | d :: l, x => if d.tsn = x then some 0 else (atIx l x).map (· + 1)
theorem atIx_spec : ∀ (l : List Data) (x : Int), (∀ i, atIx l x = some i ↔ ∃ h : i < l.length, l[i].tsn = x ∧ ∀ j (hj : j < i), l[j].tsn ≠ x)
  | [], x, i => by simp [atIx]
  | d :: l, x, i => by
    simp only [atIx]
    by_cases hd : d.tsn = x
    · rw [if_pos hd]
      constructor
      · intro h; cases h; exact ⟨by simp, hd, fun j hj => by omega⟩
      · rintro ⟨h, h1, h2⟩
        cases i with
        | zero => rfl
        | succ i => exact absurd hd (h2 0 (by omega))
    · rw [if_neg hd]
      cases i with
      | zero =>
        constructor
        · intro h; cases ha : atIx l x <;> simp [ha] at h
        · rintro ⟨h, h1, _⟩; exact absurd h1 hd
      | succ i =>
        have ih := atIx_spec l x i
        constructor
        · intro h
          cases ha : atIx l x with
          | none => simp [ha] at h
          | some k =>
            simp only [ha, Option.map_some, Option.some.injEq, Nat.add_right_cancel_iff] at h
            subst h
            obtain ⟨h0, h1, h2⟩ := ih.1 ha
            refine ⟨by simpa using h0, by simpa using h1, fun j hj => ?_⟩
            cases j with
            | zero => simpa using hd
            | succ j => simpa using h2 j (by omega)
        · rintro ⟨h, h1, h2⟩
          have : atIx l x = some i := ih.2 ⟨by simpa using h, by simpa using h1, fun j hj => by simpa using h2 (j + 1) (by omega)⟩
          simp [this]
theorem atIx_none : ∀ (l : List Data) (x : Int), atIx l x = none ↔ ∀ d ∈ l, d.tsn ≠ x
  | [], x => by simp [atIx]
  | d :: l, x => by
    simp only [atIx]
    by_cases hd : d.tsn = x
    · rw [if_pos hd]; simp [hd]
    · rw [if_neg hd]
      have ih := atIx_none l x
      cases ha : atIx l x with
      | none => simp [hd, ih.1 ha]; exact ih.1 ha
      | some k =>
        simp only [Option.map_some, reduceCtorEq, false_iff]
        intro h
        have := ih.2 fun y hy => h y (List.mem_cons_of_mem _ hy)
        rw [ha] at this; cases this
end Go.Cap

/- The chain of a message's parts, in plain terms. -/
namespace Go.Cap
open Go Go.Proofs
set_option linter.unusedSimpArgs false
set_option linter.unusedVariables false

def dataAt (l : List Data) (k : Nat) : Data := l.getD k ⟨0, 0, 0, false, false, false, []⟩
theorem dataAt_eq {l : List Data} {k : Nat} (h : k < l.length) : dataAt l k = l[k] := by simp [dataAt, List.getD_eq_getElem?_getD, h]
/-- The index of the part that comes behind part 'k'. -/
def nextIx (l : List Data) (k : Nat) : Option Nat := match atIx l (l3 (dataAt l k).tsn 1) with
  | some j => if (dataAt l j).first || !likeB (dataAt l j) (dataAt l k) then none else some j
  | none => none
def chainN : Nat → List Data → Nat → Option (List Nat)
  | 0, _, _ => none
  | n + 1, l, k => if (dataAt l k).last then some [k] else match nextIx l k with
    | some j => (chainN n l j).map (k :: ·)
    | none => none
def chain (l : List Data) (k : Nat) : Option (List Nat) := chainN l.length l k
/-- The parts that a walk has met: their numbers go up by one. -/
structure Walk (l : List Data) (pre : List Nat) (k : Nat) : Prop where
  last : pre.getLast? = some k
  lt : ∀ i ∈ pre, i < l.length
  tsn : ∀ j (h : j < pre.length), (dataAt l pre[j]).tsn = l3 (dataAt l (pre.headD 0)).tsn j
  nodup : pre.Nodup
theorem nodup_le {pre : List Nat} {n : Nat} (hn : pre.Nodup) (hl : ∀ i ∈ pre, i < n) : pre.length ≤ n := by
  have h2 : pre.length ≤ (List.range n).length := hn.length_le_of_subset (fun x hx => List.mem_range.2 (hl x hx))
  simpa using h2
theorem Walk.one {l : List Data} {k : Nat} (h : k < l.length) (ht : ∀ d ∈ l, 0 ≤ d.tsn ∧ d.tsn < 65536) : Walk l [k] k := by
  refine ⟨rfl, by simpa using h, ?_, by simp⟩
  intro j hj
  have : j = 0 := by simpa using hj
  subst this
  simp only [List.getElem_cons_zero, List.headD_cons]
  have := ht _ (List.getElem_mem h)
  rw [dataAt_eq h]
  exact (l3_zero this).symm
theorem atIx_some {l : List Data} {x : Int} {j : Nat} (h : atIx l x = some j) : ∃ hj : j < l.length, l[j].tsn = x := by
  obtain ⟨h1, h2, _⟩ := (atIx_spec l x j).1 h
  exact ⟨h1, h2⟩
theorem nextIx_some {l : List Data} {k j : Nat} (h : nextIx l k = some j) : atIx l (l3 (dataAt l k).tsn 1) = some j := by
  unfold nextIx at h
  split at h
  · rename_i j' ha
    split at h
    · cases h
    · cases h; exact ha
  · cases h
theorem l3_inj {a : Int} {i j : Nat} (hi : i < 60000) (hj : j < 60000) (h : l3 a i = l3 a j) : i = j := by unfold l3 at h; omega
theorem Walk.step {l : List Data} {pre : List Nat} {k j : Nat} (w : Walk l pre k) (hp : pre.length < 60000) (h : atIx l (l3 (dataAt l k).tsn 1) = some j) : Walk l (pre ++ [j]) j := by
  obtain ⟨hj, ht⟩ := atIx_some h
  have hne : pre ≠ [] := fun e => by have := w.last; rw [e] at this; cases this
  have hpos : 0 < pre.length := List.length_pos_iff.2 hne
  have hk : (dataAt l k).tsn = l3 (dataAt l (pre.headD 0)).tsn ((pre.length - 1 : Nat) : Int) := by
    have h2 := w.tsn (pre.length - 1) (by omega)
    have h3 : pre[pre.length - 1] = k := by
      have := w.last
      rw [List.getLast?_eq_getElem?, List.getElem?_eq_getElem (by omega)] at this
      exact Option.some.inj this
    rw [h3] at h2; exact h2
  have hjt : (dataAt l j).tsn = l3 (dataAt l (pre.headD 0)).tsn (pre.length : Int) := by
    rw [dataAt_eq hj, ht, hk, l3_l3]; congr 1; omega
  have hhead : (pre ++ [j]).headD 0 = pre.headD 0 := by cases pre with
    | nil => exact absurd rfl hne
    | cons a b => rfl
  refine ⟨List.getLast?_concat, fun i hi => ?_, fun i hi => ?_, ?_⟩
  · rcases List.mem_append.1 hi with hi | hi
    · exact w.lt i hi
    · simp only [List.mem_singleton] at hi; subst hi; exact hj
  · rw [hhead]
    rcases Nat.lt_or_ge i pre.length with hip | hip
    · rw [List.getElem_append_left hip]; exact w.tsn i hip
    · have : i = pre.length := by simp only [List.length_append, List.length_cons, List.length_nil] at hi; omega
      subst this
      simp only [List.getElem_concat_length]
      exact hjt
  · rw [List.nodup_append]
    refine ⟨w.nodup, by simp, fun a ha b hb => ?_⟩
    simp only [List.mem_singleton] at hb
    subst hb
    intro e
    subst e
    obtain ⟨i, hi, e⟩ := List.getElem_of_mem ha
    have h4 := w.tsn i hi
    rw [e, hjt] at h4
    have := l3_inj (by omega) (by omega) h4
    omega
end Go.Cap

/- Contracts: a valid assembly (the program's). -/
namespace Go.Cap
open Go Go.Proofs
set_option maxRecDepth 100000
set_option linter.unusedSimpArgs false
set_option linter.unusedVariables false
attribute [local irreducible] Call Run Spec Le

structure Asm where
  next : List Int
  parts : List Data
def intRow (n : Int) : List RV := [.n .i64 n]
def Asm.ro (a : Asm) : AV := .agg [.r (.ro none (a.next.map intRow)), .r (.ro none (a.parts.map Data.row))]
def partOk (n : Nat) (l : List Data) (d : Data) : Bool := dataB d && decide (d.stream < n) && (atIx l d.tsn).isNone
def partsLoop (n : Nat) (parts : List Data) : Nat → List Data → Bool
  | _, [] => true
  | i, d :: l => partOk n (parts.take i) d && partsLoop n parts (i + 1) l
def asmB (a : Asm) : Bool := decide (1 ≤ a.next.length ∧ a.next.length ≤ 4) && decide (a.parts.length ≤ 12) && a.next.all serialB && partsLoop a.next.length a.parts 0 a.parts
end Go.Cap

/- Contracts: the chain of a message's parts, and the message that is due (the program's). -/
namespace Go.Cap
open Go Go.Proofs
set_option maxRecDepth 100000
set_option linter.unusedSimpArgs false
set_option linter.unusedVariables false
attribute [local irreducible] Call Run Spec Le

theorem walk_head {pre : List Nat} {k : Nat} (h : pre.getLast? = some k) : pre = pre.dropLast ++ [k] := by
  have hne : pre ≠ [] := fun e => by rw [e] at h; cases h
  have h2 := List.dropLast_concat_getLast hne
  rw [List.getLast?_eq_some_getLast hne] at h
  have h3 := Option.some.inj h
  rw [h3] at h2; exact h2.symm
/-- What is known of the chain after a walk. -/
def Goes (l : List Data) (k : Nat) (pre : List Nat) (a : Nat) : Prop := chain l k = (chainN (l.length + 1 - pre.length) l a).map (pre.dropLast ++ ·)
theorem Goes.start {l : List Data} {k : Nat} : Goes l k [k] k := by
  unfold Goes chain
  simp
theorem Goes.next {l : List Data} {k a j : Nat} {pre : List Nat} (h : Goes l k pre a) (w : Walk l pre a) (hl : pre.length ≤ l.length) (hla : (dataAt l a).last = false) (hn : nextIx l a = some j) : Goes l k (pre ++ [j]) j := by
  unfold Goes at h ⊢
  have e : l.length + 1 - pre.length = (l.length - pre.length) + 1 := by omega
  have e2 : l.length + 1 - (pre ++ [j]).length = l.length - pre.length := by simp
  rw [e, chainN, if_neg (by simp [hla]), hn] at h
  rw [e2, List.dropLast_concat, h]
  cases hc : chainN (l.length - pre.length) l j with
  | none => simp [hc]
  | some t =>
    simp only [hc, Option.map_some]
    congr 1
    conv => rhs; rw [walk_head w.last]
    simp
theorem chain_ne {l : List Data} {k : Nat} {p : List Nat} : ∀ {n : Nat}, chainN n l k = some p → p ≠ []
  | 0, h => by cases h
  | n + 1, h => by
    rw [chainN] at h
    split at h
    · cases h; simp
    · split at h
      · cases hc : chainN n l _ with
        | none => rw [hc] at h; cases h
        | some t => rw [hc] at h; cases h; simp
      · cases h
/-- The number that a stream waits for. -/
def nextAt (a : Asm) (s : Int) : Int := a.next.getD s.toNat 0
def dueAt (a : Asm) (i : Nat) : Option (List Nat) := if (dataAt a.parts i).first && ((dataAt a.parts i).loose || (dataAt a.parts i).ssn == nextAt a (dataAt a.parts i).stream) then chain a.parts i else none
def dueFrom (a : Asm) : List Nat → Option (List Nat)
  | [] => none
  | i :: l => match dueAt a i with
    | some p => some p
    | none => dueFrom a l
def due (a : Asm) : Option (List Nat) := dueFrom a (List.range a.parts.length)
/-- What the search for a message relies on. -/
structure AsmOk (a : Asm) : Prop where
  len : a.parts.length ≤ 13
  tsn : ∀ d ∈ a.parts, 0 ≤ d.tsn ∧ d.tsn < 65536
  stream : ∀ d ∈ a.parts, 0 ≤ d.stream ∧ d.stream < a.next.length
  next : ∀ n ∈ a.next, serialB n = true
  nlen : a.next.length ≤ 4
end Go.Cap

/- Assemblies in plain terms: taking a message out, settling, adding. -/
namespace Go.Cap
open Go Go.Proofs
set_option linter.unusedSimpArgs false
set_option linter.unusedVariables false

def textOfIx (l : List Data) (p : List Nat) : List UInt8 := p.flatMap fun i => (dataAt l i).text
/-- The parts whose indices are not among some. -/
def restFrom (p : List Nat) : Nat → List Data → List Data
  | _, [] => []
  | i, d :: l => if i ∈ p then restFrom p (i + 1) l else d :: restFrom p (i + 1) l
def msgOf (a : Asm) (p : List Nat) : Msg := ⟨(dataAt a.parts (p.headD 0)).stream, (dataAt a.parts (p.headD 0)).ssn, (dataAt a.parts (p.headD 0)).loose, textOfIx a.parts p⟩
def takeOut (a : Asm) (p : List Nat) : Asm := ⟨if (msgOf a p).loose then a.next else a.next.set (msgOf a p).stream.toNat (l3 (nextAt a (msgOf a p).stream) 1), restFrom p 0 a.parts⟩
/-- All messages that are due are taken out. -/
def settle : Nat → Asm → List Msg → Asm × List Msg
  | 0, a, ms => (a, ms)
  | n + 1, a, ms => match due a with
    | some p => settle n (takeOut a p) (ms ++ [msgOf a p])
    | none => (a, ms)
def asmAdd (a : Asm) (d : Data) : Asm × List Msg × Int :=
  if !asmB a || !dataB d || decide ((a.next.length : Int) ≤ d.stream) then (⟨[], []⟩, [], 3)
  else if (atIx a.parts d.tsn).isSome then (a, [], 1)
  else if 12 ≤ a.parts.length then (a, [], 2)
  else let x := settle (a.parts.length + 2) ⟨a.next, a.parts ++ [d]⟩ []; (x.1, x.2, 0)
theorem restFrom_len (p : List Nat) : ∀ (l : List Data) (i : Nat), (restFrom p i l).length ≤ l.length
  | [], i => by simp [restFrom]
  | d :: l, i => by
    simp only [restFrom]
    split
    · have := restFrom_len p l (i + 1); simp only [List.length_cons]; omega
    · have := restFrom_len p l (i + 1); simp only [List.length_cons]; omega
theorem restFrom_lt (p : List Nat) : ∀ (l : List Data) (i k : Nat), k ∈ p → i ≤ k → k < i + l.length → (restFrom p i l).length < l.length
  | [], i, k, hk, h1, h2 => by simp at h2; omega
  | d :: l, i, k, hk, h1, h2 => by
    simp only [restFrom, List.length_cons] at h2 ⊢
    split
    · have := restFrom_len p l (i + 1); omega
    · rename_i hn
      have hne : i ≠ k := fun e => hn (e ▸ hk)
      have := restFrom_lt p l (i + 1) k hk (by omega) (by omega)
      simp only [List.length_cons]; omega
/-- A chain is a walk. -/
theorem chain_walk {l : List Data} (ht : ∀ d ∈ l, 0 ≤ d.tsn ∧ d.tsn < 65536) (hl : l.length ≤ 13) : ∀ (n k : Nat) (pre p : List Nat) , chainN n l k = some p → Walk l pre k → ∃ k', Walk l (pre.dropLast ++ p) k'
  | 0, k, pre, p, h, w => by cases h
  | n + 1, k, pre, p, h, w => by
    rw [chainN] at h
    split at h
    · cases h; rw [← walk_head w.last]; exact ⟨k, w⟩
    · split at h
      · rename_i j hj
        cases hc : chainN n l j with
        | none => rw [hc] at h; cases h
        | some t =>
          rw [hc] at h
          cases h
          have hpl := nodup_le w.nodup w.lt
          obtain ⟨k', w2⟩ := chain_walk ht hl n j (pre ++ [j]) t hc (w.step (by omega) (nextIx_some hj))
          rw [List.dropLast_concat] at w2
          refine ⟨k', ?_⟩
          have : pre.dropLast ++ k :: t = pre ++ t := by
            conv => rhs; rw [walk_head w.last]
            simp
          rw [this]; exact w2
      · cases h
theorem chainN_head {l : List Data} : ∀ {n k : Nat} {p : List Nat}, chainN n l k = some p → p.headD 0 = k
  | 0, k, p, h => by cases h
  | n + 1, k, p, h => by
    rw [chainN] at h
    split at h
    · cases h; rfl
    · split at h
      · cases hc : chainN n l _ with
        | none => rw [hc] at h; cases h
        | some t => rw [hc] at h; cases h; rfl
      · cases h
end Go.Cap

/- Contracts: adding a part (the program's): the loops. -/
namespace Go.Cap
open Go Go.Proofs
set_option maxRecDepth 100000
set_option linter.unusedSimpArgs false
set_option linter.unusedVariables false
attribute [local irreducible] Call Run Spec Le

/-- Which indices are taken. -/
def takenR (p : List Nat) : List RV := (List.range 13).map fun j => .b (decide (j ∈ p))
@[go_sem] theorem takenR_len (p : List Nat) : (takenR p).length = 13 := by simp [takenR]
theorem restFrom_drop {p : List Nat} {l : List Data} {i : Nat} (h : i < l.length) : restFrom p i (l.drop i) = if i ∈ p then restFrom p (i + 1) (l.drop (i + 1)) else l[i] :: restFrom p (i + 1) (l.drop (i + 1)) := by
  rw [List.drop_eq_getElem_cons h]; rfl
end Go.Cap

/- Contracts: adding a part (the program's). -/
namespace Go.Cap
open Go Go.Proofs
set_option maxRecDepth 100000
set_option linter.unusedSimpArgs false
set_option linter.unusedVariables false
attribute [local irreducible] Call Run Spec Le

theorem due_some {a : Asm} {p : List Nat} (h : due a = some p) : ∃ i, i < a.parts.length ∧ dueAt a i = some p := by
  have key : ∀ l : List Nat, dueFrom a l = some p → ∃ i ∈ l, dueAt a i = some p := by
    intro l
    induction l with
    | nil => intro h; cases h
    | cons i l ih =>
      intro h
      rw [dueFrom] at h
      cases hd : dueAt a i with
      | some q => rw [hd] at h; cases h; exact ⟨i, List.mem_cons_self .., hd⟩
      | none =>
        rw [hd] at h
        obtain ⟨j, hj, h2⟩ := ih h
        exact ⟨j, List.mem_cons_of_mem _ hj, h2⟩
  obtain ⟨i, hi, h2⟩ := key _ h
  exact ⟨i, List.mem_range.1 hi, h2⟩
/-- What a message that is due promises. -/
structure DueOk (a : Asm) (p : List Nat) : Prop where
  ne : p ≠ []
  lt : ∀ i ∈ p, i < a.parts.length
  nodup : p.Nodup
  first : (dataAt a.parts (p.headD 0)).first = true
  ssn : (dataAt a.parts (p.headD 0)).loose = true ∨ (dataAt a.parts (p.headD 0)).ssn = nextAt a (dataAt a.parts (p.headD 0)).stream
theorem due_ok {a : Asm} (h : AsmOk a) {p : List Nat} (hd : due a = some p) : DueOk a p := by
  obtain ⟨i, hi, h2⟩ := due_some hd
  unfold dueAt at h2
  split at h2
  · rename_i hc
    have hh := chainN_head h2
    obtain ⟨k', w⟩ := chain_walk h.tsn h.len _ i [i] p h2 (Walk.one hi h.tsn)
    simp only [List.dropLast_singleton, List.nil_append] at w
    simp only [Bool.and_eq_true, Bool.or_eq_true, beq_iff_eq] at hc
    exact ⟨chain_ne h2, w.lt, w.nodup, by rw [hh]; exact hc.1, by rw [hh]; exact hc.2⟩
  · cases h2
theorem takeOut_lt {a : Asm} {p : List Nat} (h : DueOk a p) : (takeOut a p).parts.length < a.parts.length := by
  obtain ⟨k, hk⟩ := List.exists_mem_of_ne_nil p h.ne
  exact restFrom_lt p a.parts 0 k hk (Nat.zero_le _) (by simpa using h.lt k hk)
end Go.Cap

/- Contracts: adding a part (the program's), whole. -/
namespace Go.Cap
open Go Go.Proofs
set_option maxRecDepth 100000
set_option linter.unusedSimpArgs false
set_option linter.unusedVariables false
attribute [local irreducible] Call Run Spec Le

theorem data_ok {d : Data} (h : dataB d = true) : (0 ≤ d.tsn ∧ d.tsn < 65536) ∧ (0 ≤ d.stream ∧ d.stream < 65536) ∧ (0 ≤ d.ssn ∧ d.ssn < 65536) ∧ 1 ≤ d.text.length ∧ d.text.length ≤ 20 := by
  simp only [dataB, serialB, Bool.and_eq_true, decide_eq_true_eq] at h
  exact ⟨h.1.1.1, h.1.1.2, h.1.2, h.2.1, h.2.2⟩
end Go.Cap

/- Groups of parts, in plain terms: which messages an assembly gives. -/
namespace Go.Cap
open Go Go.Proofs
set_option linter.unusedSimpArgs false
set_option linter.unusedVariables false

theorem nd_inj {α : Type} {l : List α} (h : l.Nodup) {i j : Nat} (hi : i < l.length) (hj : j < l.length) (e : l[i] = l[j]) : i = j := by
  have hp := List.pairwise_iff_getElem.1 h
  rcases Nat.lt_trichotomy i j with h1 | h1 | h1
  · exact absurd e (hp i j hi hj h1)
  · exact h1
  · exact absurd e.symm (hp j i hj hi h1)
def d0 : Data := ⟨0, 0, 0, false, false, false, []⟩
def hd (g : List Data) : Data := g.headD d0
/-- The parts of one message. -/
structure Grp (g : List Data) : Prop where
  ne : g ≠ []
  first : ∀ j (h : j < g.length), g[j].first = decide (j = 0)
  last : ∀ j (h : j < g.length), g[j].last = decide (j + 1 = g.length)
  like : ∀ j (h : j + 1 < g.length), likeB g[j + 1] g[j] = true
  tsn : ∀ j (h : j + 1 < g.length), g[j + 1].tsn = l3 g[j].tsn 1
def msgG (g : List Data) : Msg := ⟨(hd g).stream, (hd g).ssn, (hd g).loose, g.flatMap Data.text⟩
def ord (s : Int) (g : List Data) : Bool := !(hd g).loose && (hd g).stream == s
def hasT (g : List Data) (x : Int) : Bool := g.any fun e => e.tsn == x
structure Grps (gs : List (List Data)) : Prop where
  grp : ∀ g ∈ gs, Grp g
  inj : ∀ d ∈ gs.flatten, ∀ e ∈ gs.flatten, d.tsn = e.tsn → d = e
  nd : gs.flatten.Nodup
  rng : ∀ d ∈ gs.flatten, 0 ≤ d.tsn ∧ d.tsn < 65536
  rank : ∀ i (h : i < gs.length), (hd gs[i]).loose = false → (hd gs[i]).ssn = ((gs.take i).countP (ord (hd gs[i]).stream) : Nat)
theorem Grps.mem {gs : List (List Data)} {g : List Data} {d : Data} (h : g ∈ gs) (hd : d ∈ g) : d ∈ gs.flatten := List.mem_flatten.2 ⟨g, h, hd⟩
theorem hd_eq {g : List Data} (h : 0 < g.length) : hd g = g[0] := by cases g with
  | nil => cases h
  | cons a l => rfl
theorem hasT_mem {gs : List (List Data)} (G : Grps gs) {g : List Data} (hg : g ∈ gs) {d : Data} (hd : d ∈ gs.flatten) : hasT g d.tsn = true ↔ d ∈ g := by
  unfold hasT
  rw [List.any_eq_true]
  constructor
  · rintro ⟨e, he, h⟩
    rw [G.inj d hd e (Grps.mem hg he) (by simpa using (beq_iff_eq.1 h).symm)]
    exact he
  · intro h; exact ⟨d, h, by simp⟩
/-- Groups that share a part are the same. -/
theorem flat_nd : ∀ {gs : List (List Data)}, gs.flatten.Nodup → ∀ {i j : Nat} (hi : i < gs.length) (hj : j < gs.length) {d : Data}, d ∈ gs[i] → d ∈ gs[j] → i = j
  | [], _, i, j, hi, _, _, _, _ => by simp at hi
  | g :: gs, h, i, j, hi, hj, d, h1, h2 => by
    rw [List.flatten_cons, List.nodup_append] at h
    obtain ⟨_, h3, h4⟩ := h
    cases i with
    | zero => cases j with
      | zero => rfl
      | succ j =>
        simp only [List.getElem_cons_zero, List.getElem_cons_succ] at h1 h2
        exact absurd rfl (h4 d h1 d (Grps.mem (List.getElem_mem _) h2))
    | succ i => cases j with
      | zero =>
        simp only [List.getElem_cons_zero, List.getElem_cons_succ] at h1 h2
        exact absurd rfl (h4 d h2 d (Grps.mem (List.getElem_mem _) h1))
      | succ j =>
        simp only [List.getElem_cons_succ] at h1 h2
        have := flat_nd h3 (i := i) (j := j) (by simpa using hi) (by simpa using hj) h1 h2
        omega
theorem Grps.same {gs : List (List Data)} (G : Grps gs) {g g' : List Data} (h : g ∈ gs) (h' : g' ∈ gs) {d : Data} (hd : d ∈ g) (hd' : d ∈ g') : g = g' := by
  obtain ⟨i, hi, rfl⟩ := List.getElem_of_mem h
  obtain ⟨j, hj, rfl⟩ := List.getElem_of_mem h'
  have := flat_nd G.nd hi hj hd hd'
  subst this; rfl
def ixOf (l : List Data) (d : Data) : Nat := (atIx l d.tsn).getD 0
/-- Where parts lie. -/
structure Sub (gs : List (List Data)) (l : List Data) : Prop where
  mem : ∀ d ∈ l, d ∈ gs.flatten
  nd : l.Nodup
theorem Sub.ix {gs : List (List Data)} (G : Grps gs) {l : List Data} (S : Sub gs l) {d : Data} (h : d ∈ l) : ∃ i, atIx l d.tsn = some i ∧ ixOf l d = i ∧ ∃ hi : i < l.length, l[i] = d := by
  cases ha : atIx l d.tsn with
  | none => exact absurd rfl ((atIx_none _ _).1 ha d h)
  | some i =>
    obtain ⟨hi, ht⟩ := atIx_some ha
    exact ⟨i, rfl, by simp [ixOf, ha], hi, G.inj _ (S.mem _ (List.getElem_mem hi)) _ (S.mem _ h) ht⟩
theorem Sub.ix_get {gs : List (List Data)} (G : Grps gs) {l : List Data} (S : Sub gs l) {i : Nat} (hi : i < l.length) : ixOf l l[i] = i := by
  obtain ⟨j, _, h2, hj, h3⟩ := S.ix G (List.getElem_mem hi)
  rw [h2]
  exact nd_inj S.nd hj hi h3
theorem Sub.at {gs : List (List Data)} (G : Grps gs) {l : List Data} (S : Sub gs l) {d : Data} (h : d ∈ l) : dataAt l (ixOf l d) = d ∧ ixOf l d < l.length := by
  obtain ⟨i, _, h2, hi, h3⟩ := S.ix G h
  rw [h2, dataAt_eq hi]; exact ⟨h3, hi⟩
theorem drop_cons {g : List Data} {j : Nat} (h : j < g.length) : g.drop j = g[j] :: g.drop (j + 1) := List.drop_eq_getElem_cons h
theorem next_of {gs : List (List Data)} (G : Grps gs) {l : List Data} (S : Sub gs l) {g : List Data} (hg : g ∈ gs) {j : Nat} (hj : j + 1 < g.length) (h0 : g[j] ∈ l) (h1 : g[j + 1] ∈ l) : nextIx l (ixOf l g[j]) = some (ixOf l g[j + 1]) := by
  have hp := G.grp g hg
  obtain ⟨e0, _⟩ := S.at G h0
  obtain ⟨i, a1, a2, hi, a3⟩ := S.ix G h1
  unfold nextIx
  rw [e0, ← hp.tsn j hj, a1]
  simp only
  rw [a2, dataAt_eq hi, a3, hp.first (j + 1) hj, hp.like j hj]
  simp
theorem chain_of {gs : List (List Data)} (G : Grps gs) {l : List Data} (S : Sub gs l) {g : List Data} (hg : g ∈ gs) (hl : ∀ d ∈ g, d ∈ l) : ∀ (n j : Nat) (h : j < g.length), g.length - j ≤ n → chainN n l (ixOf l g[j]) = some ((g.drop j).map (ixOf l))
  | 0, j, h, hn => by omega
  | n + 1, j, h, hn => by
    have hp := G.grp g hg
    obtain ⟨e0, _⟩ := S.at G (hl _ (List.getElem_mem h))
    rw [chainN, e0, hp.last j h]
    by_cases hj : j + 1 = g.length
    · rw [if_pos (by simpa using hj), drop_cons h, List.drop_eq_nil_of_le (by omega)]; rfl
    · have hj1 : j + 1 < g.length := by omega
      rw [if_neg (by simpa using hj), next_of G S hg hj1 (hl _ (List.getElem_mem _)) (hl _ (List.getElem_mem _))]
      simp only
      rw [chain_of G S hg hl n (j + 1) hj1 (by omega), drop_cons h]; rfl
theorem chain_conv {gs : List (List Data)} (G : Grps gs) {l : List Data} (S : Sub gs l) {g : List Data} (hg : g ∈ gs) : ∀ (n j : Nat) (h : j < g.length) (_ : g[j] ∈ l) {p : List Nat}, chainN n l (ixOf l g[j]) = some p → p = (g.drop j).map (ixOf l) ∧ ∀ d ∈ g.drop j, d ∈ l
  | 0, j, h, h0, p, hc => by cases hc
  | n + 1, j, h, h0, p, hc => by
    have hp := G.grp g hg
    obtain ⟨e0, _⟩ := S.at G h0
    rw [chainN, e0, hp.last j h] at hc
    by_cases hj : j + 1 = g.length
    · rw [if_pos (by simpa using hj)] at hc
      cases hc
      rw [drop_cons h, List.drop_eq_nil_of_le (by omega)]
      exact ⟨rfl, by simpa using h0⟩
    · have hj1 : j + 1 < g.length := by omega
      rw [if_neg (by simpa using hj)] at hc
      cases hn : nextIx l (ixOf l g[j]) with
      | none => rw [hn] at hc; cases hc
      | some k =>
        rw [hn] at hc
        simp only at hc
        have hk := nextIx_some hn
        rw [e0, ← hp.tsn j hj1] at hk
        obtain ⟨hkl, hkt⟩ := atIx_some hk
        have hkd : l[k] = g[j + 1] := G.inj _ (S.mem _ (List.getElem_mem hkl)) _ (Grps.mem hg (List.getElem_mem hj1)) hkt
        have h1 : g[j + 1] ∈ l := hkd ▸ List.getElem_mem hkl
        have hik : ixOf l g[j + 1] = k := by rw [← hkd]; exact S.ix_get G hkl
        cases hcn : chainN n l k with
        | none => rw [hcn] at hc; cases hc
        | some t =>
          rw [hcn] at hc
          cases hc
          rw [← hik] at hcn
          obtain ⟨r1, r2⟩ := chain_conv G S hg n (j + 1) hj1 h1 hcn
          rw [drop_cons h, r1]
          refine ⟨rfl, fun d hd => ?_⟩
          rcases List.mem_cons.1 hd with rfl | hd
          · exact h0
          · exact r2 d hd
/-- Parts that are left when a message is taken out. -/
theorem rest_of {gs : List (List Data)} (G : Grps gs) {l : List Data} (S : Sub gs l) {g : List Data} (hg : g ∈ gs) (hl : ∀ d ∈ g, d ∈ l) : ∀ (k : Nat), k ≤ l.length → restFrom (g.map (ixOf l)) k (l.drop k) = (l.drop k).filter fun d => !hasT g d.tsn := by
  intro k hk
  induction h : l.length - k generalizing k with
  | zero => rw [List.drop_eq_nil_of_le (by omega)]; rfl
  | succ m ih =>
    have hkl : k < l.length := by omega
    rw [restFrom_drop hkl, ih (k + 1) (by omega) (by omega), drop_cons hkl, List.filter_cons]
    have hm : k ∈ g.map (ixOf l) ↔ hasT g l[k].tsn = true := by
      rw [hasT_mem G hg (S.mem _ (List.getElem_mem hkl)), List.mem_map]
      constructor
      · rintro ⟨e, he, h2⟩
        obtain ⟨h3, h4⟩ := S.at G (hl e he)
        rw [h2, dataAt_eq hkl] at h3
        rw [h3]; exact he
      · intro h2; exact ⟨_, h2, S.ix_get G hkl⟩
    by_cases hq : hasT g l[k].tsn = true
    · rw [if_pos (hm.2 hq), if_neg (by simp [hq])]
    · rw [if_neg (fun h2 => hq (hm.1 h2)), if_pos (by simpa using hq)]
theorem text_of {gs : List (List Data)} (G : Grps gs) {l : List Data} (S : Sub gs l) : ∀ (g : List Data), (∀ d ∈ g, d ∈ l) → textOfIx l (g.map (ixOf l)) = g.flatMap Data.text
  | [], _ => rfl
  | d :: g, h => by
    have ih := text_of G S g fun x hx => h x (List.mem_cons_of_mem _ hx)
    unfold textOfIx at ih ⊢
    rw [List.map_cons, List.flatMap_cons, ih, (S.at G (h d (List.mem_cons_self ..))).1, List.flatMap_cons]
theorem msg_of {gs : List (List Data)} (G : Grps gs) {a : Asm} (S : Sub gs a.parts) {g : List Data} (hg : g ∈ gs) (hl : ∀ d ∈ g, d ∈ a.parts) : msgOf a (g.map (ixOf a.parts)) = msgG g := by
  have ht := text_of G S g hl
  unfold msgOf msgG
  rw [ht]
  cases g with
  | nil => exact absurd rfl (G.grp _ hg).ne
  | cons d g =>
    have := (S.at G (hl d (List.mem_cons_self ..))).1
    simp only [List.map_cons, List.headD_cons, hd, this]
/-- What an assembly has of the groups: those that were told, in order. -/
structure AInv (gs : List (List Data)) (n : Nat) (arr : List Data) (a : Asm) (ms : List Msg) (T : List (List Data)) : Prop where
  sub : ∀ g ∈ T, g ∈ gs
  in_ : ∀ g ∈ T, ∀ d ∈ g, d ∈ arr
  nd : T.Nodup
  ms : ms = T.map msgG
  parts : a.parts = arr.filter fun d => !(T.any fun g => hasT g d.tsn)
  nlen : a.next.length = n
  next : ∀ s : Int, 0 ≤ s → s < n → nextAt a s = (T.countP (ord s) : Nat)
  rk : ∀ (i : Nat) (s : Int) (h : i < (T.filter (ord s)).length), (hd ((T.filter (ord s))[i])).ssn = (i : Int)
/-- What is known of all parts. -/
structure Base (gs : List (List Data)) (n : Nat) : Prop where
  G : Grps gs
  n4 : 1 ≤ n ∧ n ≤ 4
  many : gs.length ≤ 60000
  str : ∀ d ∈ gs.flatten, 0 ≤ d.stream ∧ d.stream < n
section
variable {gs : List (List Data)} {n : Nat} {arr : List Data} {a : Asm} {ms : List Msg} {T : List (List Data)}
theorem AInv.S (B : Base gs n) (A : Sub gs arr) (I : AInv gs n arr a ms T) : Sub gs a.parts := by
  rw [I.parts]
  exact ⟨fun d hd => A.mem d (List.mem_filter.1 hd).1, A.nd.filter _⟩
theorem AInv.mem (B : Base gs n) (A : Sub gs arr) (I : AInv gs n arr a ms T) {d : Data} : d ∈ a.parts ↔ d ∈ arr ∧ ∀ g ∈ T, d ∉ g := by
  rw [I.parts, List.mem_filter]
  refine and_congr_right fun hd => ?_
  rw [Bool.not_eq_true', List.any_eq_false]
  exact forall_congr' fun g => forall_congr' fun hg => not_congr (hasT_mem B.G (I.sub g hg) (A.mem d hd))
theorem hd_mem {g : List Data} (h : g ≠ []) : hd g ∈ g := by cases g with
  | nil => exact absurd rfl h
  | cons d g => exact List.mem_cons_self ..
theorem like_hd {g : List Data} (h : Grp g) : ∀ (j : Nat) (hj : j < g.length), g[j].stream = (hd g).stream ∧ g[j].ssn = (hd g).ssn ∧ g[j].loose = (hd g).loose
  | 0, hj => by rw [hd_eq hj]; exact ⟨rfl, rfl, rfl⟩
  | j + 1, hj => by
    obtain ⟨h1, h2, h3⟩ := like_hd h j (by omega)
    have := h.like j hj
    simp only [likeB, Bool.and_eq_true, beq_iff_eq] at this
    exact ⟨this.1.1.trans h1, this.1.2.trans h2, this.2.trans h3⟩
theorem like_mem {g : List Data} (h : Grp g) {d : Data} (hd' : d ∈ g) : d.stream = (hd g).stream ∧ d.ssn = (hd g).ssn ∧ d.loose = (hd g).loose := by
  obtain ⟨j, hj, rfl⟩ := List.getElem_of_mem hd'
  exact like_hd h j hj
theorem first_hd {g : List Data} (h : Grp g) {d : Data} (hd' : d ∈ g) (hf : d.first = true) : d = hd g := by
  obtain ⟨j, hj, rfl⟩ := List.getElem_of_mem hd'
  rw [h.first j hj] at hf
  have : j = 0 := by simpa using hf
  subst this
  exact (hd_eq hj).symm
theorem len_le {g : List Data} {l : List Data} (hn : g.Nodup) (h : ∀ d ∈ g, d ∈ l) : g.length ≤ l.length := hn.length_le_of_subset h
theorem nodup_of_mem : ∀ {gs : List (List Data)}, gs.flatten.Nodup → ∀ {g : List Data}, g ∈ gs → g.Nodup
  | [], _, g, h => by cases h
  | x :: gs, hn, g, h => by
    rw [List.flatten_cons, List.nodup_append] at hn
    rcases List.mem_cons.1 h with rfl | h
    · exact hn.1
    · exact nodup_of_mem hn.2.1 h
/-- A group that is whole is due, if it has no order or if its number is the next one. -/
theorem due_of (B : Base gs n) (A : Sub gs arr) (I : AInv gs n arr a ms T) {g : List Data} (hg : g ∈ gs) (hl : ∀ d ∈ g, d ∈ a.parts) (ho : (hd g).loose = true ∨ (hd g).ssn = nextAt a (hd g).stream) : due a ≠ none := by
  have S := I.S B A
  have hp := B.G.grp g hg
  have hpos : 0 < g.length := List.length_pos_iff.2 hp.ne
  have h0 := hl _ (List.getElem_mem hpos)
  obtain ⟨e0, hi⟩ := S.at B.G h0
  have hgl : g.length ≤ a.parts.length := len_le (nodup_of_mem B.G.nd hg) hl
  have hc : chain a.parts (ixOf a.parts g[0]) = some ((g.drop 0).map (ixOf a.parts)) := chain_of B.G S hg hl _ 0 hpos (by omega)
  have hda : dueAt a (ixOf a.parts g[0]) = some ((g.drop 0).map (ixOf a.parts)) := by
    unfold dueAt
    rw [e0, if_pos, hc]
    rw [hd_eq hpos] at ho
    simp only [Bool.and_eq_true, Bool.or_eq_true, beq_iff_eq]
    exact ⟨by rw [hp.first 0 hpos]; rfl, ho⟩
  intro hn
  have key : ∀ l : List Nat, dueFrom a l = none → ∀ i ∈ l, dueAt a i = none := by
    intro l
    induction l with
    | nil => intro _ i hi; cases hi
    | cons x l ih =>
      intro h i hi
      rw [dueFrom] at h
      cases hx : dueAt a x with
      | some q => rw [hx] at h; cases h
      | none =>
        rw [hx] at h
        rcases List.mem_cons.1 hi with rfl | hi
        · exact hx
        · exact ih h i hi
  have := key _ hn _ (List.mem_range.2 hi)
  rw [hda] at this; cases this
/-- What is due is a whole group. -/
theorem due_grp (B : Base gs n) (A : Sub gs arr) (I : AInv gs n arr a ms T) {p : List Nat} (h : due a = some p) : ∃ g ∈ gs, (∀ d ∈ g, d ∈ a.parts) ∧ p = g.map (ixOf a.parts) ∧ ((hd g).loose = true ∨ (hd g).ssn = nextAt a (hd g).stream) := by
  have S := I.S B A
  obtain ⟨i, hi, h2⟩ := due_some h
  unfold dueAt at h2
  split at h2
  · rename_i hc
    rw [dataAt_eq hi] at hc
    have hm := S.mem _ (List.getElem_mem hi)
    obtain ⟨g, hg, hdg⟩ := List.mem_flatten.1 hm
    simp only [Bool.and_eq_true, Bool.or_eq_true, beq_iff_eq] at hc
    have hh := first_hd (B.G.grp g hg) hdg hc.1
    have hpos : 0 < g.length := List.length_pos_iff.2 (B.G.grp g hg).ne
    have e : g[0] = a.parts[i] := by rw [hh, hd_eq hpos]
    have hix : ixOf a.parts g[0] = i := by rw [e]; exact S.ix_get B.G hi
    have hmem : g[0] ∈ a.parts := by rw [e]; exact List.getElem_mem hi
    unfold chain at h2
    rw [← hix] at h2
    obtain ⟨r1, r2⟩ := chain_conv B.G S hg _ 0 hpos hmem h2
    refine ⟨g, hg, r2, r1, ?_⟩
    rw [← hh]; exact hc.2
  · cases h2
theorem AInv.fresh (B : Base gs n) (A : Sub gs arr) (I : AInv gs n arr a ms T) {g : List Data} (hg : g ∈ gs) (hl : ∀ d ∈ g, d ∈ a.parts) : g ∉ T := fun h => by
  have := hd_mem (B.G.grp g hg).ne
  exact ((I.mem B A).1 (hl _ this)).2 g h this
theorem AInv.count (B : Base gs n) (I : AInv gs n arr a ms T) : T.length ≤ gs.length := I.nd.length_le_of_subset I.sub
/-- Taking a group out. -/
theorem AInv.take (B : Base gs n) (A : Sub gs arr) (I : AInv gs n arr a ms T) {g : List Data} (hg : g ∈ gs) (hl : ∀ d ∈ g, d ∈ a.parts) (ho : (hd g).loose = true ∨ (hd g).ssn = nextAt a (hd g).stream) :
    AInv gs n arr (takeOut a (g.map (ixOf a.parts))) (ms ++ [msgOf a (g.map (ixOf a.parts))]) (T ++ [g]) := by
  have S := I.S B A
  have hfr := I.fresh B A hg hl
  have hmg := msg_of B.G S hg hl
  have hstr := B.str _ (Grps.mem hg (hd_mem (B.G.grp g hg).ne))
  have hnd : (T ++ [g]).Nodup := by
    rw [List.nodup_append]
    exact ⟨I.nd, by simp, fun x hx y hy => by simp only [List.mem_singleton] at hy; subst hy; exact fun e => hfr (e ▸ hx)⟩
  refine ⟨fun x hx => ?_, fun x hx d hdx => ?_, hnd, ?_, ?_, ?_, fun s hs hsn => ?_, fun i s h => ?_⟩
  · rcases List.mem_append.1 hx with hx | hx
    · exact I.sub x hx
    · simp only [List.mem_singleton] at hx; subst hx; exact hg
  · rcases List.mem_append.1 hx with hx | hx
    · exact I.in_ x hx d hdx
    · simp only [List.mem_singleton] at hx; subst hx; exact ((I.mem B A).1 (hl d hdx)).1
  · rw [hmg, I.ms, List.map_append]; rfl
  · show restFrom _ 0 a.parts = _
    have := rest_of B.G S hg hl 0 (Nat.zero_le _)
    rw [List.drop_zero] at this
    rw [this, I.parts, List.filter_filter]
    congr 1
    funext d
    rw [List.any_append]
    simp only [List.any_cons, List.any_nil, Bool.or_false, Bool.not_or]
    exact Bool.and_comm _ _
  · unfold takeOut; simp only; split <;> simp [I.nlen]
  · have hcnt : (T ++ [g]).countP (ord s) = T.countP (ord s) + if ord s g = true then 1 else 0 := by
      rw [List.countP_append, List.countP_cons, List.countP_nil]; simp
    have hI := I.next s hs hsn
    have hcl : T.countP (ord s) ≤ 60000 := Nat.le_trans (Nat.le_trans List.countP_le_length (I.count B)) B.many
    unfold takeOut
    rw [hmg]
    unfold nextAt at hI ⊢
    rw [hcnt]
    by_cases hlo : (hd g).loose = true
    · have : (msgG g).loose = true := hlo
      rw [if_pos this, hI]
      simp [ord, hlo]
    · have hlo' : ¬ ((msgG g).loose = true) := hlo
      rw [if_neg hlo']
      have hms : (msgG g).stream = (hd g).stream := rfl
      rw [hms]
      have hnl := I.nlen
      by_cases hst : (hd g).stream = s
      · have : ord s g = true := by simp [ord, hlo, hst]
        rw [if_pos this, hst]
        simp only [List.getD_eq_getElem?_getD]
        rw [List.getElem?_set_self (by omega)]
        simp only [List.getD_eq_getElem?_getD] at hI
        rw [Option.getD_some, hI]
        unfold l3; omega
      · have : ¬ (ord s g = true) := by simp [ord, hst]
        rw [if_neg this]
        simp only [List.getD_eq_getElem?_getD]
        rw [List.getElem?_set_ne (by omega)]
        simp only [List.getD_eq_getElem?_getD] at hI
        exact hI
  · have hfl : (T ++ [g]).filter (ord s) = T.filter (ord s) ++ if ord s g = true then [g] else [] := by
      rw [List.filter_append, List.filter_cons, List.filter_nil]
    rcases Nat.lt_or_ge i (T.filter (ord s)).length with hi | hi
    · have e : ((T ++ [g]).filter (ord s))[i] = (T.filter (ord s))[i] := by
        simp only [hfl]; exact List.getElem_append_left hi
      rw [e]; exact I.rk i s hi
    · by_cases ht : ord s g = true
      · have hlen : ((T ++ [g]).filter (ord s)).length = (T.filter (ord s)).length + 1 := by rw [hfl, if_pos ht]; simp
        have hie : i = (T.filter (ord s)).length := by omega
        have e : ((T ++ [g]).filter (ord s))[i] = g := by
          simp only [hfl, if_pos ht]
          rw [List.getElem_append_right (by omega)]; simp
        rw [e, hie]
        simp only [ord, Bool.and_eq_true, Bool.not_eq_true', beq_iff_eq] at ht
        rcases ho with ho | ho
        · rw [ho] at ht; cases ht.1
        · rw [ho, I.next _ hstr.1 hstr.2, ht.2, List.countP_eq_length_filter]
      · rw [hfl, if_neg ht, List.append_nil] at h; omega
theorem filter_len_le {p : Data → Bool} {l : List Data} : (l.filter p).length ≤ l.length := List.length_filter_le ..
theorem AInv.ok (B : Base gs n) (A : Sub gs arr) (I : AInv gs n arr a ms T) (hl : arr.length ≤ 13) : AsmOk a := by
  have S := I.S B A
  refine ⟨by rw [I.parts]; exact Nat.le_trans filter_len_le hl, fun d hd => B.G.rng d (S.mem d hd), fun d hd => by rw [I.nlen]; exact B.str d (S.mem d hd), fun x hx => ?_, by rw [I.nlen]; exact B.n4.2⟩
  obtain ⟨i, hi, rfl⟩ := List.getElem_of_mem hx
  have h1 := I.next i (by omega) (by rw [← I.nlen]; omega)
  have hcl : T.countP (ord i) ≤ 60000 := Nat.le_trans (Nat.le_trans List.countP_le_length (I.count B)) B.many
  unfold nextAt at h1
  simp only [Int.toNat_natCast, List.getD_eq_getElem?_getD, List.getElem?_eq_getElem hi, Option.getD_some] at h1
  rw [h1]
  simp only [serialB, decide_eq_true_eq]; omega
/-- Settling. -/
theorem AInv.settle (B : Base gs n) (A : Sub gs arr) (hl : arr.length ≤ 13) : ∀ (k : Nat) (a : Asm) (ms : List Msg) (T : List (List Data)), AInv gs n arr a ms T → a.parts.length < k → ∃ T', AInv gs n arr (Cap.settle k a ms).1 (Cap.settle k a ms).2 (T ++ T') ∧ due (Cap.settle k a ms).1 = none
  | 0, a, ms, T, I, h => by omega
  | k + 1, a, ms, T, I, h => by
    cases hd : due a with
    | none =>
      refine ⟨[], ?_, ?_⟩ <;> rw [Cap.settle, hd]
      · rw [List.append_nil]; exact I
      · exact hd
    | some p =>
      obtain ⟨g, hg, hgl, rfl, ho⟩ := due_grp B A I hd
      have hlt := takeOut_lt (due_ok (I.ok B A hl) hd)
      obtain ⟨T', I', hd'⟩ := AInv.settle B A hl k _ _ _ (I.take B A hg hgl ho) (by omega)
      refine ⟨g :: T', ?_, ?_⟩ <;> rw [Cap.settle, hd]
      · rw [List.append_assoc] at I'; exact I'
      · exact hd'
end
end Go.Cap

/- What an assembly does with parts that it has not seen: it takes them, and tells the groups that are whole. -/
namespace Go.Cap
open Go Go.Proofs
set_option linter.unusedSimpArgs false
set_option linter.unusedVariables false

def asmStep (x : Asm × List Msg) (d : Data) : Asm × List Msg := if (asmAdd x.1 d).2.2 = 0 then ((asmAdd x.1 d).1, x.2 ++ (asmAdd x.1 d).2.1) else x
def asmNew (n : Nat) : Asm := ⟨List.replicate n 0, []⟩
def asmRun (n : Int) (l : List Data) : List Msg := if 1 ≤ n ∧ n ≤ 4 then (l.foldl asmStep (asmNew n.toNat, [])).2 else []
theorem settle_app : ∀ (k : Nat) (a : Asm) (ms ms0 : List Msg), settle k a (ms0 ++ ms) = ((settle k a ms).1, ms0 ++ (settle k a ms).2)
  | 0, _, _, _ => rfl
  | k + 1, a, ms, ms0 => by
    rw [settle, settle]
    cases due a with
    | none => rfl
    | some p => simp only; rw [List.append_assoc]; exact settle_app k _ _ _
theorem partsLoop_of {n : Nat} {p : List Data} : ∀ (l : List Data) (i : Nat), (∀ j (hj : j < l.length), partOk n (p.take (i + j)) l[j] = true) → partsLoop n p i l = true
  | [], _, _ => rfl
  | d :: l, i, h => by
    simp only [partsLoop, Bool.and_eq_true]
    refine ⟨h 0 (by simp), partsLoop_of l (i + 1) fun j hj => ?_⟩
    have := h (j + 1) (by simpa using hj)
    simpa [Nat.add_assoc, Nat.add_comm 1 j] using this
section
variable {gs : List (List Data)} {n : Nat} {arr : List Data} {a : Asm} {ms : List Msg} {T : List (List Data)} {d : Data}
theorem AInv.valid (B : Base gs n) (A : Sub gs arr) (I : AInv gs n arr a ms T) (hl : arr.length ≤ 12) (hd : ∀ d ∈ arr, dataB d = true) : asmB a = true := by
  have S := I.S B A
  have ok := I.ok B A (by omega)
  have hpl : a.parts.length ≤ 12 := by rw [I.parts]; exact Nat.le_trans filter_len_le hl
  have hall : a.next.all serialB = true := List.all_eq_true.2 ok.next
  have hps : partsLoop a.next.length a.parts 0 a.parts = true := by
    refine partsLoop_of _ 0 fun j hj => ?_
    have hm := List.getElem_mem hj
    rw [Nat.zero_add]
    unfold partOk
    have h1 : dataB a.parts[j] = true := hd _ ((I.mem B A).1 hm).1
    have h2 := (ok.stream _ hm).2
    have h3 : atIx (a.parts.take j) a.parts[j].tsn = none := by
      rw [atIx_none]
      intro d hd' e
      have hdm := List.mem_of_mem_take hd'
      have := B.G.inj _ (S.mem _ hdm) _ (S.mem _ hm) e
      obtain ⟨k, hk, e2⟩ := List.getElem_of_mem hd'
      rw [List.length_take] at hk
      rw [List.getElem_take] at e2
      have := nd_inj S.nd (i := k) (j := j) (by omega) hj (by rw [e2, this])
      omega
    rw [h1, h3, decide_eq_true h2]; rfl
  have hn : 1 ≤ a.next.length ∧ a.next.length ≤ 4 := by rw [I.nlen]; exact B.n4
  unfold asmB
  rw [hall, hps, decide_eq_true hpl, decide_eq_true hn]; rfl
theorem AInv.push (B : Base gs n) (A : Sub gs (arr ++ [d])) (I : AInv gs n arr a ms T) : AInv gs n (arr ++ [d]) ⟨a.next, a.parts ++ [d]⟩ ms T := by
  have hnd := List.nodup_append.1 A.nd
  have hfresh : ∀ g ∈ T, d ∉ g := fun g hg h => absurd rfl (hnd.2.2 d (I.in_ g hg d h) d (by simp))
  refine ⟨I.sub, fun g hg x hx => List.mem_append_left _ (I.in_ g hg x hx), I.nd, I.ms, ?_, I.nlen, I.next, I.rk⟩
  show a.parts ++ [d] = _
  rw [List.filter_append, ← I.parts]
  congr 1
  have : (T.any fun g => hasT g d.tsn) = false := by
    rw [List.any_eq_false]
    intro g hg
    rw [hasT_mem B.G (I.sub g hg) (A.mem d (by simp))]
    exact hfresh g hg
  simp [this]
theorem Sub.left {more : List Data} (A : Sub gs (arr ++ more)) : Sub gs arr := ⟨fun x hx => A.mem x (List.mem_append_left _ hx), (List.nodup_append.1 A.nd).1⟩
theorem AInv.add (B : Base gs n) (A : Sub gs (arr ++ [d])) (I : AInv gs n arr a ms T) (hl : arr.length < 12) (hd : ∀ x ∈ arr ++ [d], dataB x = true) :
    ∃ T', AInv gs n (arr ++ [d]) (asmStep (a, ms) d).1 (asmStep (a, ms) d).2 (T ++ T') ∧ due (asmStep (a, ms) d).1 = none := by
  have A0 := A.left
  have hv := I.valid B A0 (by omega) fun x hx => hd x (List.mem_append_left _ hx)
  have hdd := hd d (by simp)
  have hst := B.str d (A.mem d (by simp))
  have hat : atIx a.parts d.tsn = none := by
    rw [atIx_none]
    intro x hx e
    have hx' := ((I.mem B A0).1 hx).1
    have := B.G.inj _ (A0.mem x hx') _ (A.mem d (by simp)) e
    subst this
    exact absurd rfl ((List.nodup_append.1 A.nd).2.2 x hx' x (by simp))
  have hpl : a.parts.length < 12 := by rw [I.parts]; exact Nat.lt_of_le_of_lt filter_len_le hl
  have hadd : asmAdd a d = ((Cap.settle (a.parts.length + 2) ⟨a.next, a.parts ++ [d]⟩ []).1, (Cap.settle (a.parts.length + 2) ⟨a.next, a.parts ++ [d]⟩ []).2, 0) := by
    unfold asmAdd
    rw [if_neg (by simp [hv, hdd, I.nlen]; omega), hat, if_neg (by simp), if_neg (by omega)]
  obtain ⟨T', I', h'⟩ := AInv.settle B A (by simp; omega) (a.parts.length + 2) _ _ _ (I.push B A) (by simp)
  have e := settle_app (a.parts.length + 2) ⟨a.next, a.parts ++ [d]⟩ [] ms
  rw [List.append_nil] at e
  rw [e] at I' h'
  have hs : asmStep (a, ms) d = ((Cap.settle (a.parts.length + 2) ⟨a.next, a.parts ++ [d]⟩ []).1, ms ++ (Cap.settle (a.parts.length + 2) ⟨a.next, a.parts ++ [d]⟩ []).2) := by
    unfold asmStep; simp only [hadd, if_true]
  rw [hs]
  exact ⟨T', I', h'⟩
theorem AInv.run (B : Base gs n) : ∀ (more arr : List Data) (a : Asm) (ms : List Msg) (T : List (List Data)), Sub gs (arr ++ more) → AInv gs n arr a ms T → due a = none → (arr ++ more).length ≤ 12 → (∀ x ∈ arr ++ more, dataB x = true) →
    ∃ T', AInv gs n (arr ++ more) (more.foldl asmStep (a, ms)).1 (more.foldl asmStep (a, ms)).2 (T ++ T') ∧ due (more.foldl asmStep (a, ms)).1 = none
  | [], arr, a, ms, T, A, I, h, hl, hd => ⟨[], by simpa using I, h⟩
  | d :: more, arr, a, ms, T, A, I, h, hl, hd => by
    have e : arr ++ d :: more = (arr ++ [d]) ++ more := by simp
    rw [e] at A hl hd ⊢
    obtain ⟨T1, I1, h1⟩ := I.add B A.left (by simp at hl; omega) fun x hx => hd x (List.mem_append_left _ hx)
    obtain ⟨T2, I2, h2⟩ := AInv.run B more (arr ++ [d]) _ _ _ A I1 h1 hl hd
    rw [List.append_assoc T T1 T2] at I2
    exact ⟨T1 ++ T2, I2, h2⟩
theorem AInv.start (gs : List (List Data)) (n : Nat) : AInv gs n [] (asmNew n) [] [] := by
  refine ⟨fun g h => (List.not_mem_nil h).elim, fun g h => (List.not_mem_nil h).elim, List.nodup_nil, rfl, rfl, by simp [asmNew], fun s h1 h2 => ?_, fun i s h => by simp at h⟩
  simp only [nextAt, asmNew, List.getD_eq_getElem?_getD, List.getElem?_replicate]
  split <;> rfl
theorem rank_lt {p : List Data → Bool} {gs : List (List Data)} {j i : Nat} (hj : j < i) (hi : i ≤ gs.length) (h : p (gs[j]'(by omega)) = true) : (gs.take j).countP p + 1 ≤ (gs.take i).countP p := by
  have h1 : (gs.take (j + 1)).countP p = (gs.take j).countP p + 1 := by
    rw [take_get (by omega), List.countP_append, List.countP_cons, List.countP_nil, if_pos h]
  have h2 : (gs.take (j + 1)).Sublist (gs.take i) := by
    have : gs.take (j + 1) = (gs.take i).take (j + 1) := by rw [List.take_take]; congr 1; omega
    rw [this]; exact List.take_sublist ..
  have := h2.countP_le (p := p)
  omega
theorem Grps.nodup (G : Grps gs) : gs.Nodup := by
  refine List.pairwise_iff_getElem.2 fun i j hi hj hij e => ?_
  have hm := hd_mem (G.grp _ (List.getElem_mem hi)).ne
  have := flat_nd G.nd hi hj hm (e ▸ hm)
  omega
theorem Grps.rank_inj (G : Grps gs) {s : Int} {i j : Nat} (hi : i < gs.length) (hj : j < gs.length) (h1 : ord s gs[i] = true) (h2 : ord s gs[j] = true) (h : (gs.take i).countP (ord s) = (gs.take j).countP (ord s)) : i = j := by
  rcases Nat.lt_trichotomy i j with k | k | k
  · have := rank_lt k (by omega) h1; omega
  · exact k
  · have := rank_lt k (by omega) h2; omega
/-- A group that is whole has been told, if all groups ahead of it are whole too. -/
theorem AInv.whole (B : Base gs n) (A : Sub gs arr) (I : AInv gs n arr a ms T) (hdue : due a = none) : ∀ (i : Nat) (hi : i < gs.length), (∀ j (hj : j ≤ i), ∀ d ∈ gs[j]'(by omega), d ∈ arr) → gs[i] ∈ T := by
  intro i
  induction i using Nat.strongRecOn with
  | _ i ih =>
    intro hi hin
    by_cases hT : gs[i] ∈ T
    · exact hT
    exfalso
    have hg := List.getElem_mem hi
    have hp := B.G.grp _ hg
    have hl : ∀ d ∈ gs[i], d ∈ a.parts := fun d hd => (I.mem B A).2 ⟨hin i (Nat.le_refl _) d hd, fun g hgT hdg => hT (B.G.same hg (I.sub g hgT) hd hdg ▸ hgT)⟩
    refine due_of B A I hg hl ?_ hdue
    by_cases hlo : (hd gs[i]).loose = true
    · exact .inl hlo
    · right
      have hlo' : (hd gs[i]).loose = false := by simpa using hlo
      have hstr := B.str _ (Grps.mem hg (hd_mem hp.ne))
      rw [B.G.rank i hi hlo', I.next _ hstr.1 hstr.2]
      generalize hs : (hd gs[i]).stream = s
      have ho : ord s gs[i] = true := by simp [ord, hlo', hs]
      congr 1
      apply Nat.le_antisymm
      · rw [List.countP_eq_length_filter, List.countP_eq_length_filter]
        refine List.Nodup.length_le_of_subset ?_ ?_
        · exact (B.G.nodup.sublist (List.take_sublist ..)).filter _
        · intro g hgf
          rw [List.mem_filter] at hgf ⊢
          refine ⟨?_, hgf.2⟩
          obtain ⟨j, hj, rfl⟩ := List.mem_take_iff_getElem.1 hgf.1
          exact ih j (by omega) (by omega) fun k hk => hin k (by omega)
      · rcases Nat.lt_or_ge ((gs.take i).countP (ord s)) (T.countP (ord s)) with hlt | hge
        · exfalso
          rw [List.countP_eq_length_filter (p := ord s) (l := T)] at hlt
          have hrk := I.rk _ s hlt
          have hmem := List.mem_filter.1 (List.getElem_mem hlt)
          generalize (T.filter (ord s))[(gs.take i).countP (ord s)] = gx at hrk hmem
          obtain ⟨j, hj, rfl⟩ := List.getElem_of_mem (I.sub _ hmem.1)
          have ho2 := hmem.2
          simp only [ord, Bool.and_eq_true, Bool.not_eq_true', beq_iff_eq] at ho2
          rw [B.G.rank j hj ho2.1, ho2.2] at hrk
          have hij := B.G.rank_inj hi hj ho hmem.2 (by omega)
          subst hij
          exact hT hmem.1
        · exact hge
end
end Go.Cap

/- Parts that follow one another make groups; what an assembly gives of them, in order and in any order. -/
namespace Go.Cap
open Go Go.Proofs
set_option linter.unusedSimpArgs false
set_option linter.unusedVariables false

/-- The parts of a message that is still open. -/
structure PreG (g : List Data) : Prop where
  first : ∀ j (h : j < g.length), g[j].first = decide (j = 0)
  last : ∀ j (h : j + 1 < g.length), g[j].last = false
  like : ∀ j (h : j + 1 < g.length), likeB g[j + 1] g[j] = true
  tsn : ∀ j (h : j + 1 < g.length), g[j + 1].tsn = l3 g[j].tsn 1
theorem PreG.snoc {c : List Data} {d : Data} (h : PreG c) (hl : ∀ x ∈ c, x.last = false) (hf : d.first = decide (c.length = 0)) (hk : ∀ x, c.getLast? = some x → likeB d x = true ∧ d.tsn = l3 x.tsn 1) : PreG (c ++ [d]) := by
  have hlast : ∀ j (hj : j + 1 = c.length), c.getLast? = some (c[j]'(by omega)) := fun j hj => by
    rw [List.getLast?_eq_getElem?, List.getElem?_eq_getElem (by omega)]; congr 2; omega
  refine ⟨fun j hj => ?_, fun j hj => ?_, fun j hj => ?_, fun j hj => ?_⟩
  · rw [List.length_append, List.length_singleton] at hj
    rcases Nat.lt_or_ge j c.length with h1 | h1
    · rw [List.getElem_append_left h1]; exact h.first j h1
    · have : j = c.length := by omega
      subst this
      rw [List.getElem_concat_length rfl, hf]
  · rw [List.length_append, List.length_singleton] at hj
    rw [List.getElem_append_left (by omega)]; exact hl _ (List.getElem_mem _)
  · rw [List.length_append, List.length_singleton] at hj
    rcases Nat.lt_or_ge (j + 1) c.length with h1 | h1
    · rw [List.getElem_append_left h1, List.getElem_append_left (by omega)]; exact h.like j h1
    · have h2 : j + 1 = c.length := by omega
      rw [List.getElem_concat_length h2, List.getElem_append_left (by omega)]
      exact (hk _ (hlast j h2)).1
  · rw [List.length_append, List.length_singleton] at hj
    rcases Nat.lt_or_ge (j + 1) c.length with h1 | h1
    · rw [List.getElem_append_left h1, List.getElem_append_left (by omega)]; exact h.tsn j h1
    · have h2 : j + 1 = c.length := by omega
      rw [List.getElem_concat_length h2, List.getElem_append_left (by omega)]
      exact (hk _ (hlast j h2)).2
theorem PreG.close {c : List Data} {d : Data} (h : PreG (c ++ [d])) (hd : d.last = true) : Grp (c ++ [d]) := by
  refine ⟨by simp, h.first, fun j hj => ?_, h.like, h.tsn⟩
  by_cases h1 : j + 1 = (c ++ [d]).length
  · rw [decide_eq_true h1]
    rw [List.length_append, List.length_singleton] at h1
    have : j = c.length := by omega
    subst this
    rw [List.getElem_concat_length rfl]; exact hd
  · rw [decide_eq_false h1]; exact h.last j (by omega)
/-- Parts, cut into groups and what is still open. -/
structure Cut (P : List Data) (gs : List (List Data)) (cur : List Data) : Prop where
  eq : P = gs.flatten ++ cur
  grp : ∀ g ∈ gs, Grp g
  pre : PreG cur
  lst : ∀ x ∈ cur, x.last = false
  said : saidSt P = (gs.map msgG, cur.flatMap Data.text)
  rank : ∀ i (h : i < gs.length), (hd gs[i]).loose = false → (hd gs[i]).ssn = ((gs.take i).countP (ord (hd gs[i]).stream) : Nat)
  crank : cur ≠ [] → (hd cur).loose = false → (hd cur).ssn = (gs.countP (ord (hd cur).stream) : Nat)
  cnt : ∀ s, ssnIn P s = gs.countP (ord s) + (if cur ≠ [] ∧ ord s cur = true then 1 else 0)
theorem Cut.nil : Cut [] [] [] := ⟨rfl, fun g h => (List.not_mem_nil h).elim, ⟨fun j h => by simp at h, fun j h => by simp at h, fun j h => by simp at h, fun j h => by simp at h⟩, fun x h => (List.not_mem_nil h).elim, rfl, fun i h => by simp at h, fun h => absurd rfl h, fun s => by simp [ssnIn]⟩
theorem flat_last {gs : List (List Data)} (h : ∀ g ∈ gs, Grp g) {x : Data} (hx : gs.flatten.getLast? = some x) : x.last = true := by
  rcases gs.eq_nil_or_concat with rfl | ⟨g0, g, rfl⟩
  · simp at hx
  · rw [List.concat_eq_append] at h hx
    have hg := h g (by simp)
    rcases g.eq_nil_or_concat with rfl | ⟨c, y, rfl⟩
    · exact absurd rfl hg.ne
    · rw [List.concat_eq_append] at hx hg
      rw [List.flatten_append, List.flatten_singleton, ← List.append_assoc, List.getLast?_concat] at hx
      cases hx
      have := hg.last c.length (by simp)
      rw [List.getElem_concat_length rfl] at this
      rw [this]; simp
theorem hd_app {c : List Data} {d : Data} (h : c ≠ []) : hd (c ++ [d]) = hd c := by cases c with
  | nil => exact absurd rfl h
  | cons a l => rfl
theorem Cut.next {P : List Data} {gs : List (List Data)} {cur : List Data} {d : Data} (h : Cut P gs cur) (hm : mayB P d = true) (ht : ∀ x, P.getLast? = some x → d.tsn = l3 x.tsn 1) : ∃ gs' cur', Cut (P ++ [d]) gs' cur' := by
  -- what is known of the part that comes
  have hnew : cur = [] → d.first = true ∧ (d.loose = true ∨ d.ssn = (ssnIn P d.stream : Nat)) := fun hc => by
    have hP : P = gs.flatten := by rw [h.eq, hc, List.append_nil]
    unfold mayB at hm
    cases hx : P.getLast? with
    | none => rw [hx] at hm; simpa using hm
    | some x =>
      rw [hx] at hm
      have := flat_last h.grp (hP ▸ hx)
      simp only [this, if_true] at hm
      simpa using hm
  have hold : ∀ x, cur.getLast? = some x → d.first = false ∧ likeB d x = true ∧ d.tsn = l3 x.tsn 1 := fun x hx => by
    have hP : P.getLast? = some x := by rw [h.eq, List.getLast?_append, hx]; rfl
    have hxl := h.lst x (List.mem_of_getLast? hx)
    unfold mayB at hm
    rw [hP] at hm
    simp only [hxl, Bool.false_eq_true, if_false, Bool.and_eq_true, Bool.not_eq_true'] at hm
    exact ⟨hm.1, hm.2, ht x hP⟩
  have hfirst : d.first = decide (cur.length = 0) := by
    by_cases hc : cur = []
    · rw [(hnew hc).1, hc]; rfl
    · obtain ⟨x, hx⟩ : ∃ x, cur.getLast? = some x := by cases hg : cur.getLast? with
        | none => exact absurd (List.getLast?_eq_none_iff.1 hg) hc
        | some x => exact ⟨x, rfl⟩
      rw [(hold x hx).1, decide_eq_false (fun e => hc (List.eq_nil_of_length_eq_zero e))]
  have hpre : PreG (cur ++ [d]) := h.pre.snoc h.lst hfirst fun x hx => (hold x hx).2
  have hhd : hd (cur ++ [d]) = if cur = [] then d else hd cur := by
    split
    · rename_i hc; rw [hc]; rfl
    · rename_i hc; exact hd_app hc
  have hrk : (hd (cur ++ [d])).loose = false → (hd (cur ++ [d])).ssn = (gs.countP (ord (hd (cur ++ [d])).stream) : Nat) := by
    by_cases hc : cur = []
    · rw [hhd, if_pos hc]
      intro hl
      rcases (hnew hc).2 with h1 | h1
      · rw [h1] at hl; cases hl
      · rw [h1, h.cnt, hc]; simp
    · rw [hhd, if_neg hc]; exact h.crank hc
  have hcnt : ∀ s, ssnIn (P ++ [d]) s = gs.countP (ord s) + (if ord s (cur ++ [d]) = true then 1 else 0) := fun s => by
    rw [ssnIn_app, h.cnt s]
    by_cases hc : cur = []
    · have h1 := (hnew hc).1
      subst hc
      simp [ssnIn, ord, h1, hd, List.countP_cons]
    · have h1 : d.first = false := by rw [hfirst, decide_eq_false (fun e => hc (List.eq_nil_of_length_eq_zero e))]
      have h2 : ord s (cur ++ [d]) = ord s cur := by unfold ord; rw [hd_app hc]
      rw [h2]
      simp [ssnIn, h1, hc, List.countP_cons]
  have htxt : (cur ++ [d]).flatMap Data.text = cur.flatMap Data.text ++ d.text := by simp
  by_cases hdl : d.last = true
  · have hg := hpre.close hdl
    obtain ⟨k1, k2, k3⟩ := like_mem hg (d := d) (by simp)
    refine ⟨gs ++ [cur ++ [d]], [], ?_⟩
    refine ⟨by rw [h.eq]; simp, fun g hgm => ?_, Cut.nil.pre, fun x hx => (List.not_mem_nil hx).elim, ?_, fun i hi => ?_, fun hx => absurd rfl hx, fun s => ?_⟩
    · rcases List.mem_append.1 hgm with hgm | hgm
      · exact h.grp g hgm
      · simp only [List.mem_singleton] at hgm; subst hgm; exact hg
    · rw [saidSt_app, h.said]
      simp only [List.foldl_cons, List.foldl_nil, saidStep, hdl, if_true, List.map_append, List.map_cons, List.map_nil, List.flatMap_nil]
      unfold msgG
      rw [← k1, ← k2, ← k3, htxt]
    · rw [List.length_append, List.length_singleton] at hi
      rcases Nat.lt_or_ge i gs.length with h1 | h1
      · rw [List.getElem_append_left h1, List.take_append_of_le_length (by omega)]; exact h.rank i h1
      · have : i = gs.length := by omega
        subst this
        rw [List.getElem_concat_length rfl, List.take_left]
        exact hrk
    · rw [hcnt, List.countP_append, List.countP_cons, List.countP_nil]; simp
  · have hdl' : d.last = false := by simpa using hdl
    refine ⟨gs, cur ++ [d], ?_⟩
    refine ⟨by rw [h.eq, List.append_assoc], h.grp, hpre, fun x hx => ?_, ?_, h.rank, fun _ => hrk, fun s => ?_⟩
    · rcases List.mem_append.1 hx with hx | hx
      · exact h.lst x hx
      · simp only [List.mem_singleton] at hx; subst hx; exact hdl'
    · rw [saidSt_app, h.said]
      simp only [List.foldl_cons, List.foldl_nil, saidStep, hdl', Bool.false_eq_true, if_false, htxt]
    · rw [hcnt]; simp
/-- Parts of a side: numbered, each one may follow the ones ahead of it. -/
def SeqP (f : Int) (n : Nat) (P : List Data) : Prop := ∀ i (hi : i < P.length), dataB P[i] = true ∧ P[i].tsn = l3 f i ∧ P[i].stream < n ∧ mayB (P.take i) P[i] = true
theorem SeqP.cut {f : Int} {n : Nat} {P : List Data} (h : SeqP f n P) : ∃ gs cur, Cut P gs cur := by
  have key : ∀ i, i ≤ P.length → ∃ gs cur, Cut (P.take i) gs cur := by
    intro i
    induction i with
    | zero => intro _; exact ⟨[], [], by rw [List.take_zero]; exact Cut.nil⟩
    | succ i ih =>
      intro hi
      obtain ⟨gs, cur, hc⟩ := ih (by omega)
      have hil : i < P.length := by omega
      rw [take_get hil]
      refine hc.next (h i hil).2.2.2 fun x hx => ?_
      have hlen : (P.take i).length = i := by rw [List.length_take]; omega
      rw [List.getLast?_eq_getElem?, hlen] at hx
      rcases Nat.eq_zero_or_pos i with h0 | h0
      · subst h0; simp at hx
      · rw [List.getElem?_take_of_lt (by omega), List.getElem?_eq_getElem (by omega)] at hx
        cases hx
        rw [(h i hil).2.1, (h (i - 1) (by omega)).2.1, l3_l3]
        congr 1; omega
  have := key P.length (Nat.le_refl _)
  rwa [List.take_length] at this
theorem grps_of {gs : List (List Data)} {f : Int} (hg : ∀ g ∈ gs, Grp g) (ht : ∀ j (h : j < gs.flatten.length), gs.flatten[j].tsn = l3 f j) (hl : gs.flatten.length ≤ 13)
    (hr : ∀ i (h : i < gs.length), (hd gs[i]).loose = false → (hd gs[i]).ssn = ((gs.take i).countP (ord (hd gs[i]).stream) : Nat)) : Grps gs := by
  refine ⟨hg, fun d hd e he hde => ?_, ?_, fun d hd => ?_, hr⟩
  · obtain ⟨i, hi, rfl⟩ := List.getElem_of_mem hd
    obtain ⟨j, hj, rfl⟩ := List.getElem_of_mem he
    rw [ht i hi, ht j hj] at hde
    have := l3_inj (by omega) (by omega) hde
    subst this; rfl
  · refine List.pairwise_iff_getElem.2 fun i j hi hj hij e => ?_
    have h1 := ht i hi
    rw [e, ht j hj] at h1
    have := l3_inj (by omega) (by omega) h1
    omega
  · obtain ⟨i, hi, rfl⟩ := List.getElem_of_mem hd
    rw [ht i hi]; exact l3_range f i
theorem SeqP.str {f : Int} {n : Nat} {P : List Data} (h : SeqP f n P) : ∀ d ∈ P, 0 ≤ d.stream ∧ d.stream < n := fun d hd => by
  obtain ⟨i, hi, rfl⟩ := List.getElem_of_mem hd
  exact ⟨(data_ok (h i hi).1).2.1.1, (h i hi).2.2.1⟩
theorem SeqP.ok {f : Int} {n : Nat} {P : List Data} (h : SeqP f n P) : ∀ d ∈ P, dataB d = true := fun d hd => by
  obtain ⟨i, hi, rfl⟩ := List.getElem_of_mem hd
  exact (h i hi).1
theorem groups_len {gs : List (List Data)} (h : ∀ g ∈ gs, Grp g) : gs.length ≤ gs.flatten.length := by
  induction gs with
  | nil => simp
  | cons g gs ih =>
    have h1 := ih fun x hx => h x (List.mem_cons_of_mem _ hx)
    have h2 := List.length_pos_iff.2 (h g (List.mem_cons_self ..)).ne
    rw [List.flatten_cons, List.length_append, List.length_cons]; omega
/-- What is open is closed by a part that never comes. -/
theorem SeqP.base {f : Int} {n : Nat} {P : List Data} {gs : List (List Data)} {cur : List Data} (h : SeqP f n P) (C : Cut P gs cur) (hl : P.length ≤ 12) (hn : 1 ≤ n ∧ n ≤ 4) :
    ∃ ge, Base ge n ∧ (∀ d ∈ P, d ∈ ge.flatten) ∧ P.Nodup ∧ (ge = gs ∧ cur = [] ∨ ∃ e, ge = gs ++ [cur ++ [e]] ∧ e ∉ P ∧ cur ≠ []) := by
  by_cases hc : cur = []
  · have hP : P = gs.flatten := by rw [C.eq, hc, List.append_nil]
    have G : Grps gs := grps_of C.grp (f := f) (by rw [← hP]; exact fun j hj => (h j hj).2.1) (by rw [← hP]; omega) C.rank
    refine ⟨gs, ⟨G, hn, ?_, by rw [← hP]; exact h.str⟩, fun d hd => hP ▸ hd, hP ▸ G.nd, .inl ⟨rfl, hc⟩⟩
    have := groups_len C.grp
    rw [← hP] at this; omega
  · obtain ⟨x, hx⟩ : ∃ x, cur.getLast? = some x := by cases hg : cur.getLast? with
      | none => exact absurd (List.getLast?_eq_none_iff.1 hg) hc
      | some x => exact ⟨x, rfl⟩
    have hxm := List.mem_of_getLast? hx
    have hpos : 0 < cur.length := List.length_pos_iff.2 hc
    have hPl : P.length = gs.flatten.length + cur.length := by rw [C.eq, List.length_append]
    have hxt : x.tsn = l3 f (P.length - 1 : Nat) := by
      have h1 : P.getLast? = some x := by rw [C.eq, List.getLast?_append, hx]; rfl
      rw [List.getLast?_eq_getElem?, List.getElem?_eq_getElem (by omega)] at h1
      cases h1
      exact (h _ _).2.1
    let e : Data := ⟨l3 f P.length, x.stream, x.ssn, false, true, x.loose, []⟩
    have hpre : PreG (cur ++ [e]) := C.pre.snoc C.lst (by rw [decide_eq_false (by omega)]) fun y hy => by
      rw [hx] at hy; cases hy
      refine ⟨by simp [likeB, e], ?_⟩
      show l3 f P.length = _
      rw [hxt, l3_l3]; congr 1; omega
    have hge : (gs ++ [cur ++ [e]]).flatten = P ++ [e] := by rw [C.eq]; simp
    have htsn : ∀ j (hj : j < (P ++ [e]).length), (P ++ [e])[j].tsn = l3 f j := fun j hj => by
      rw [List.length_append, List.length_singleton] at hj
      rcases Nat.lt_or_ge j P.length with h1 | h1
      · rw [List.getElem_append_left h1]; exact (h j h1).2.1
      · have : j = P.length := by omega
        subst this
        rw [List.getElem_concat_length rfl]
    have hgrp : ∀ g ∈ gs ++ [cur ++ [e]], Grp g := fun g hg => by
      rcases List.mem_append.1 hg with hg | hg
      · exact C.grp g hg
      · simp only [List.mem_singleton] at hg; subst hg; exact hpre.close rfl
    have G : Grps (gs ++ [cur ++ [e]]) := grps_of hgrp (f := f) (by rw [hge]; exact htsn) (by rw [hge]; simp; omega) fun i hi => by
      rw [List.length_append, List.length_singleton] at hi
      rcases Nat.lt_or_ge i gs.length with h1 | h1
      · rw [List.getElem_append_left h1, List.take_append_of_le_length (by omega)]; exact C.rank i h1
      · have : i = gs.length := by omega
        subst this
        rw [List.getElem_concat_length rfl, List.take_left, hd_app hc]
        exact C.crank hc
    have hnd := G.nd
    rw [hge] at hnd
    refine ⟨gs ++ [cur ++ [e]], ⟨G, hn, ?_, ?_⟩, fun d hd => by rw [hge]; exact List.mem_append_left _ hd, (List.nodup_append.1 hnd).1, .inr ⟨e, rfl, fun he => absurd rfl ((List.nodup_append.1 hnd).2.2 e he e (by simp)), hc⟩⟩
    · have := groups_len hgrp
      rw [hge] at this
      have h2 : (P ++ [e]).length ≤ 13 := by rw [List.length_append, List.length_singleton]; omega
      omega
    · rw [hge]
      intro d hd
      rcases List.mem_append.1 hd with hd | hd
      · exact h.str d hd
      · simp only [List.mem_singleton] at hd
        subst hd
        have : x ∈ P := by rw [C.eq]; exact List.mem_append_right _ hxm
        exact h.str x this
theorem only_one {α : Type} {l : List α} {y : α} (hn : l.Nodup) (h : ∀ x ∈ l, x = y) (hy : y ∈ l) : l = [y] := by
  cases l with
  | nil => cases hy
  | cons a l =>
    have ha := h a (List.mem_cons_self ..)
    subst ha
    cases l with
    | nil => rfl
    | cons b l =>
      have hb := h b (by simp)
      subst hb
      simp at hn
/-- In order, each group is told when its last part comes. -/
theorem SeqP.order {f : Int} {n : Nat} {P : List Data} {gs : List (List Data)} {cur : List Data} (h : SeqP f n P) (C : Cut P gs cur) (hl : P.length ≤ 12) (hn : 1 ≤ n ∧ n ≤ 4) :
    ∃ ge a, Base ge n ∧ AInv ge n P a (gs.map msgG) gs ∧ P.foldl asmStep (asmNew n, []) = (a, gs.map msgG) ∧ Sub ge P ∧ (cur = [] → ge = gs) := by
  obtain ⟨ge, B, hsub, hPn, hge⟩ := h.base C hl hn
  have hgl : gs.length ≤ ge.length := by rcases hge with ⟨e, _⟩ | ⟨e, he, _, _⟩ <;> simp [*]
  have hget : ∀ i (hi : i < gs.length), ge[i]'(by omega) = gs[i] := fun i hi => by
    rcases hge with ⟨e, _⟩ | ⟨e, he, _, _⟩
    · subst e; rfl
    · subst he; exact List.getElem_append_left hi
  have hmem : ∀ g ∈ gs, g ∈ ge := fun g hg => by
    obtain ⟨i, hi, rfl⟩ := List.getElem_of_mem hg
    rw [← hget i hi]; exact List.getElem_mem _
  have hgn : gs.Nodup := by
    have := B.G.nodup
    rcases hge with ⟨e, _⟩ | ⟨e, he, _, _⟩
    · exact e ▸ this
    · rw [he] at this; exact (List.nodup_append.1 this).1
  have hAP : Sub ge P := ⟨hsub, hPn⟩
  have hdue0 : due (asmNew n) = none := rfl
  have hpfx : ∀ m, m ≤ gs.length → ∃ more, P = (gs.take m).flatten ++ more := fun m hm => by
    refine ⟨(gs.drop m).flatten ++ cur, ?_⟩
    rw [← List.append_assoc, ← List.flatten_append, List.take_append_drop]; exact C.eq
  have key : ∀ m, m ≤ gs.length → ∃ a, AInv ge n (gs.take m).flatten a ((gs.take m).map msgG) (gs.take m) ∧ due a = none ∧ (gs.take m).flatten.foldl asmStep (asmNew n, []) = (a, (gs.take m).map msgG) := by
    intro m
    induction m with
    | zero => intro _; exact ⟨asmNew n, AInv.start ge n, hdue0, rfl⟩
    | succ m ih =>
      intro hm
      obtain ⟨a, I, hd0, hf⟩ := ih (by omega)
      have hml : m < gs.length := by omega
      have htk : (gs.take (m + 1)).flatten = (gs.take m).flatten ++ gs[m] := by rw [take_get hml, List.flatten_append, List.flatten_singleton]
      obtain ⟨more, hP⟩ := hpfx (m + 1) hm
      have A : Sub ge ((gs.take m).flatten ++ gs[m]) := by rw [← htk]; rw [hP] at hAP; exact hAP.left
      have hlen : ((gs.take m).flatten ++ gs[m]).length ≤ 12 := by rw [← htk]; have := congrArg List.length hP; rw [List.length_append] at this; omega
      obtain ⟨T', I', hd'⟩ := I.run B gs[m] _ _ _ _ A hd0 hlen fun x hx => h.ok x (by rw [hP, htk]; exact List.mem_append_left _ hx)
      have hT' : T' = [gs[m]] := by
        have hnd := List.nodup_append.1 I'.nd
        refine only_one hnd.2.1 (fun t ht => ?_) ?_
        · have htg := I'.sub t (List.mem_append_right _ ht)
          have hm0 := hd_mem (B.G.grp t htg).ne
          have := I'.in_ t (List.mem_append_right _ ht) _ hm0
          rcases List.mem_append.1 this with h1 | h1
          · obtain ⟨g, hg, hgd⟩ := List.mem_flatten.1 h1
            have := B.G.same htg (I.sub g hg) hm0 hgd
            subst this
            exact absurd rfl (hnd.2.2 t hg t ht)
          · exact B.G.same htg (hmem _ (List.getElem_mem hml)) hm0 h1
        · have := I'.whole B A hd' m (by omega) fun j hj d hdm => by
            rw [hget j (by omega)] at hdm
            rw [← htk]
            exact Grps.mem (List.mem_take_iff_getElem.2 ⟨j, by omega, rfl⟩) hdm
          rw [hget m hml] at this
          rcases List.mem_append.1 this with h1 | h1
          · obtain ⟨j, hj, hj2⟩ := List.mem_take_iff_getElem.1 h1
            have := nd_inj hgn (i := j) (j := m) (by omega) hml hj2
            omega
          · exact h1
      have hms : (gs[m].foldl asmStep (a, (gs.take m).map msgG)).2 = (gs.take (m + 1)).map msgG := by
        rw [I'.ms, hT', take_get hml]
      refine ⟨(gs[m].foldl asmStep (a, (gs.take m).map msgG)).1, ?_, hd', ?_⟩
      · rw [hT', hms, ← htk, ← take_get hml] at I'; exact I'
      · rw [htk, List.foldl_append, hf, ← hms]
  obtain ⟨a, I, hd0, hf⟩ := key gs.length (Nat.le_refl _)
  rw [List.take_length] at I hf
  have hPe := C.eq
  obtain ⟨T', I', hd'⟩ := I.run B cur _ _ _ _ (hPe ▸ hAP) hd0 (hPe ▸ hl) (hPe ▸ h.ok)
  have hT' : T' = [] := by
    cases hT : T' with
    | nil => rfl
    | cons t T2 =>
      exfalso
      have ht : t ∈ T' := by rw [hT]; simp
      have hnd := List.nodup_append.1 I'.nd
      have htg := I'.sub t (List.mem_append_right _ ht)
      have hm0 := hd_mem (B.G.grp t htg).ne
      have hin := I'.in_ t (List.mem_append_right _ ht)
      rcases hge with ⟨e, hc⟩ | ⟨e, he, heP, hcn⟩
      · subst e
        exact absurd rfl (hnd.2.2 t htg t ht)
      · rw [he] at htg
        rcases List.mem_append.1 htg with h1 | h1
        · exact absurd rfl (hnd.2.2 t h1 t ht)
        · simp only [List.mem_singleton] at h1
          have := hin e (by rw [h1]; simp)
          rw [← hPe] at this
          exact heP this
  refine ⟨ge, (cur.foldl asmStep (a, gs.map msgG)).1, B, ?_, ?_, hAP, ?_⟩
  · have hms2 := I'.ms
    rw [hT', List.append_nil] at hms2
    rw [hms2, hT', List.append_nil, ← hPe] at I'; exact I'
  · have hms : (cur.foldl asmStep (a, gs.map msgG)).2 = gs.map msgG := by rw [I'.ms, hT', List.append_nil]
    conv => lhs; rw [hPe, List.foldl_append, hf]
    exact Prod.ext rfl hms
  · intro hc
    rcases hge with ⟨e, _⟩ | ⟨e, he, heP, hcn⟩
    · exact e
    · exact absurd hc hcn
theorem SeqP.run {f : Int} {n : Nat} {P : List Data} (h : SeqP f n P) (hl : P.length ≤ 12) (hn : 1 ≤ n ∧ n ≤ 4) : asmRun n P = said P := by
  obtain ⟨gs, cur, C⟩ := h.cut
  obtain ⟨ge, a, B, I, hf, _, _⟩ := h.order C hl hn
  unfold asmRun
  rw [if_pos (by omega), Int.toNat_natCast, hf]
  unfold said
  rw [C.said]
/-- The ordered messages of a stream. -/
def ofStr (s : Int) (ms : List Msg) : List Msg := ms.filter fun m => m.stream == s && !m.loose
theorem ofStr_map (s : Int) (gs : List (List Data)) : ofStr s (gs.map msgG) = (gs.filter (ord s)).map msgG := by
  unfold ofStr
  rw [List.filter_map]
  congr 2
  funext g
  simp only [Function.comp, msgG, ord]
  exact Bool.and_comm _ _
/-- In any order: the same ordered messages in each stream, and as many messages. -/
theorem SeqP.any {f : Int} {n : Nat} {P Q : List Data} (h : SeqP f n P) (hl : P.length ≤ 12) (hn : 1 ≤ n ∧ n ≤ 4) (hlast : ∀ x, P.getLast? = some x → x.last = true) (hQ : Q.Perm P) :
    (asmRun n Q).length = (said P).length ∧ ∀ s, ofStr s (asmRun n Q) = ofStr s (said P) := by
  obtain ⟨gs, cur, C⟩ := h.cut
  have hc : cur = [] := by
    cases hg : cur.getLast? with
    | none => exact List.getLast?_eq_none_iff.1 hg
    | some x =>
      have hP : P.getLast? = some x := by rw [C.eq, List.getLast?_append, hg]; rfl
      have h1 := hlast x hP
      rw [C.lst x (List.mem_of_getLast? hg)] at h1; cases h1
  obtain ⟨ge, a, B, I, hf, hAP, hge⟩ := h.order C hl hn
  have hge := hge hc
  subst hge
  have hP : P = ge.flatten := by rw [C.eq, hc, List.append_nil]
  have AQ : Sub ge ([] ++ Q) := ⟨fun d hd => hAP.mem d (hQ.mem_iff.1 hd), hQ.nodup_iff.2 hAP.nd⟩
  have hlQ : ([] ++ Q).length ≤ 12 := by rw [List.nil_append, hQ.length_eq]; exact hl
  obtain ⟨T, IQ, hdQ⟩ := (AInv.start ge n).run B Q [] _ _ _ AQ rfl hlQ fun x hx => h.ok x (hQ.mem_iff.1 hx)
  rw [List.nil_append] at IQ AQ
  rw [List.nil_append] at IQ
  have hall : ∀ g ∈ ge, g ∈ T := fun g hg => by
    obtain ⟨i, hi, rfl⟩ := List.getElem_of_mem hg
    exact IQ.whole B AQ hdQ i hi fun j hj d hdm => hQ.mem_iff.2 (hP ▸ Grps.mem (List.getElem_mem _) hdm)
  have hrun : asmRun n Q = T.map msgG := by
    unfold asmRun
    rw [if_pos (by omega), Int.toNat_natCast, IQ.ms]
  have hsaid : said P = ge.map msgG := by unfold said; rw [C.said]
  have hlen : ∀ p : List Data → Bool, (T.filter p).length = (ge.filter p).length := fun p => by
    apply Nat.le_antisymm
    · refine List.Nodup.length_le_of_subset (IQ.nd.filter _) fun g hg => ?_
      rw [List.mem_filter] at hg ⊢; exact ⟨IQ.sub g hg.1, hg.2⟩
    · refine List.Nodup.length_le_of_subset (I.nd.filter _) fun g hg => ?_
      rw [List.mem_filter] at hg ⊢; exact ⟨hall g hg.1, hg.2⟩
  rw [hrun, hsaid]
  refine ⟨?_, fun s => ?_⟩
  · have := hlen fun _ => true
    rw [List.filter_eq_self.2 (fun _ _ => rfl), List.filter_eq_self.2 (fun _ _ => rfl)] at this
    simpa using this
  · rw [ofStr_map, ofStr_map]
    congr 1
    refine List.ext_getElem (hlen _) fun i h1 h2 => ?_
    have r1 := IQ.rk i s h1
    have r2 := I.rk i s h2
    have m1 := List.mem_filter.1 (List.getElem_mem h1)
    have m2 := List.mem_filter.1 (List.getElem_mem h2)
    generalize (T.filter (ord s))[i] = x at r1 m1
    generalize (ge.filter (ord s))[i] = y at r2 m2
    obtain ⟨j, hj, rfl⟩ := List.getElem_of_mem (IQ.sub x m1.1)
    obtain ⟨k, hk, rfl⟩ := List.getElem_of_mem m2.1
    have o1 := m1.2
    have o2 := m2.2
    simp only [ord, Bool.and_eq_true, Bool.not_eq_true', beq_iff_eq] at o1 o2
    rw [B.G.rank j hj o1.1, o1.2] at r1
    rw [B.G.rank k hk o2.1, o2.2] at r2
    have := B.G.rank_inj hj hk m1.2 m2.2 (by omega)
    subst this; rfl
end Go.Cap

/- Contracts: an assembly's run (the program's). -/
namespace Go.Cap
open Go Go.Proofs
set_option maxRecDepth 100000
set_option linter.unusedSimpArgs false
set_option linter.unusedVariables false
attribute [local irreducible] Call Run Spec Le

theorem intClosed (l : List Int) : closL2 (l.map intRow) := closL2_map (fun s x hx => by
  simp only [intRow, List.mem_cons, List.not_mem_nil, or_false] at hx
  rcases hx with rfl; rfl) l
end Go.Cap

/- Contracts: numbers as bytes; chunks of parts, inits and receipts, twice. -/
namespace Go.Cap
open Go Go.Proofs
set_option maxRecDepth 100000
set_option linter.unusedSimpArgs false
set_option linter.unusedVariables false
attribute [local irreducible] Call Run Spec Le

theorem wrap_u8 (x : Int) : IntKind.u8.wrap x = x % 256 := by
  simp only [IntKind.wrap, IntKind.bits, IntKind.signed]
  first | rfl | (simp; done) | omega
theorem byteOf_u8 (x : Int) : byteOf [.n .u8 x] = u8 x := rfl
def Sack.ro (s : Sack) : AV := .agg [.i s.cum, .r (.ro none (s.gaps.map Gap.row))]
theorem gapsB_drop {l : List Gap} {i : Nat} (h : i < l.length) (last : Int) : gapsB last (l.drop i) = (decide (last + 2 ≤ l[i].fr ∧ l[i].fr ≤ l[i].to ∧ l[i].to ≤ 16) && gapsB l[i].to (l.drop (i + 1))) := by
  rw [List.drop_eq_getElem_cons h]; rfl
theorem s_sackOk (s : Sack) (hl : s.gaps.length ≤ 2000000) : Spec Try.prog 145 0 [] [s.ro] (fun r _ _ _ => r = .bo (sackB s)) := by
  refine mr145 rfl fun c hP hm => ?_
  unfold pc145 Sack.ro
  refine run_seq (run_wpc _ _ _ _ _ ?_)
  simp only [hm, go_sem, ↓reduceIte]
  refine run_seq (run_wpc _ _ _ _ _ ?_)
  simp only [hm, go_sem, ↓reduceIte]
  repeat' first | refine And.intro ?_ ?_ | intro _ | (refine c_serialOk hP ?_; simp only [hm, go_sem, ↓reduceIte])
  all_goals first
    | (apply bo_inj; simp [sackB, *]; done)
    | (apply bo_inj; simp [sackB, *]; omega)
    | skip
  rename_i hser _ h8
  refine run_wpc _ _ _ _ _ ?_
  simp only [hm, go_sem, ↓reduceIte]
  intro _
  refine lp_wpc (α := Nat × Int) (fun y => ⟨[(3, .i (y.2 + 2)), (17, .r (.ro none (s.gaps.map Gap.row))), (18, .i s.gaps.length), (19, .i y.1)], [], 0, []⟩)
    (fun y => y.1 ≤ s.gaps.length ∧ 0 ≤ y.2 ∧ y.2 ≤ 16 ∧ gapsB y.2 (s.gaps.drop y.1) = gapsB 0 s.gaps) (fun y => s.gaps.length - y.1) (0, 0) ⟨Nat.zero_le _, by simp, by simp, rfl⟩ (by (refine le_ev [] ?_; simp only [hm, go_sem, ↓reduceIte]; first | done | rfl | exact ⟨rfl, rfl⟩)) ?_
  rintro ⟨i, last⟩ ⟨hi, hb0, hb1, hI⟩
  simp only at hi hb0 hb1 hI
  unfold pc145l0
  rcases Nat.lt_or_ge i s.gaps.length with hil | hil
  · have hw : IntKind.i64.wrap ((i : Int) + 1) = ((i + 1 : Nat) : Int) := by rw [wrap64 (by omega) (by omega)]; omega
    rw [gapsB_drop hil] at hI
    have hg := getD_map (f := Gap.row) hil
    generalize s.gaps[i] = g at hI hg
    have hok : gapsB 0 s.gaps = false → AV.r (RV.b false) = AV.bo (sackB s) := fun h => by simp [sackB, h]
    simp only [hw, Int.toNat_natCast, hg, Gap.row, hm, go_sem, ↓reduceIte]
    repeat' first | refine And.intro ?_ ?_ | intro _
    all_goals first
      | omega
      | rfl
      | (refine hok ?_; rw [← hI, decide_eq_false (by omega)]; rfl)
      | (rw [decide_eq_true (by omega), Bool.true_and] at hI
         refine ⟨(i + 1, g.to), ⟨hil, ?_, ?_, hI⟩, ?_, ?_⟩
         · simp only; omega
         · simp only; omega
         · simp only; omega
         · rw [wrap64 (x := g.to + 2) (by omega) (by omega)]
           (refine le_ev [] ?_; simp only [hm, go_sem, ↓reduceIte]; first | done | rfl | exact ⟨rfl, rfl⟩))
  · have : i = s.gaps.length := by omega
    subst this
    rw [List.drop_eq_nil_of_le (Nat.le_refl _)] at hI
    simp only [hm, go_sem, ↓reduceIte]
    repeat' first | refine And.intro ?_ ?_ | intro _
    all_goals first
      | omega
      | (apply bo_inj; simp [sackB, hser, ← hI, gapsB]; omega)
theorem s_l12Sack (s : Sack) (hl : s.gaps.length ≤ 2000000) : Spec Try.prog 143 0 [] [s.ro] (fun r _ _ _ => r = .bo (sackB s)) := by
  refine mr143 rfl fun c hP hm => ?_
  unfold pc143 Sack.ro
  refine run_seq (run_wpc _ _ _ _ _ ?_)
  simp only [hm, go_sem, ↓reduceIte]
  refine run_seq (run_wpc _ _ _ _ _ ?_)
  simp only [hm, go_sem, ↓reduceIte]
  refine run_seq (run_wpc _ _ _ _ _ ?_)
  simp only [hm, go_sem, ↓reduceIte]
  refine run_exit 0 (fun t0 => t0 = ⟨[(1, .ptr 0 0 0)], [(0, .var [.i s.cum, .r (.ro none (s.gaps.map Gap.row))])], 1, []⟩ ∧ gapsB 0 s.gaps = true) ?_ ?_
  · refine lp_wpc (α := Nat × Int) (fun y => ⟨[(1, .ptr 0 0 0), (3, .i y.2), (4, .i y.1)], [(0, .var [.i s.cum, .r (.ro none (s.gaps.map Gap.row))])], 1, []⟩)
      (fun y => y.1 ≤ s.gaps.length ∧ 0 ≤ y.2 ∧ y.2 ≤ 16 ∧ gapsB y.2 (s.gaps.drop y.1) = gapsB 0 s.gaps) (fun y => s.gaps.length - y.1) (0, 0) ⟨Nat.zero_le _, by simp, by simp, rfl⟩ (by (refine le_ev [] ?_; simp only [hm, go_sem, ↓reduceIte]; first | done | rfl | exact ⟨rfl, rfl⟩)) ?_
    rintro ⟨i, last⟩ ⟨hi, hb0, hb1, hI⟩
    simp only at hi hb0 hb1 hI
    unfold pc143l0
    rcases Nat.lt_or_ge i s.gaps.length with hil | hil
    · have hw : IntKind.i64.wrap ((i : Int) + 1) = ((i + 1 : Nat) : Int) := by rw [wrap64 (by omega) (by omega)]; omega
      have hw2 : IntKind.i64.wrap (last + 2) = last + 2 := wrap64 (by omega) (by omega)
      rw [gapsB_drop hil] at hI
      have hg := getD_map (f := Gap.row) hil
      generalize s.gaps[i] = g at hI hg
      have hok : gapsB 0 s.gaps = false → AV.r (RV.b false) = AV.bo (sackB s) := fun h => by simp [sackB, h]
      simp only [hw, hw2, Int.toNat_natCast, hg, Gap.row, hm, go_sem, ↓reduceIte]
      repeat' first | refine And.intro ?_ ?_ | intro _
      all_goals first
        | omega
        | rfl
        | (refine hok ?_; rw [← hI, decide_eq_false (by omega)]; rfl)
        | (rw [decide_eq_true (by omega), Bool.true_and] at hI
           refine ⟨(i + 1, g.to), ⟨hil, ?_, ?_, hI⟩, ?_, ?_⟩
           · simp only; omega
           · simp only; omega
           · simp only; omega
           · (refine le_ev [] ?_; simp only [hm, go_sem, ↓reduceIte]; first | done | rfl | exact ⟨rfl, rfl⟩))
    · have : i = s.gaps.length := by omega
      subst this
      rw [List.drop_eq_nil_of_le (Nat.le_refl _)] at hI
      simp only [hm, go_sem, ↓reduceIte]
      repeat' first | refine And.intro ?_ ?_ | intro _
      all_goals first
        | omega
        | (refine ⟨_, ⟨rfl, hI.symm⟩, ?_⟩; (refine le_ev [] ?_; simp only [hm, go_sem, ↓reduceIte]; first | done | rfl | exact ⟨rfl, rfl⟩))
  rintro t0 ⟨rfl, hG⟩
  refine run_wpc _ _ _ _ _ ?_
  simp only [hm, go_sem, ↓reduceIte]
  repeat' first | refine And.intro ?_ ?_ | intro _ | (refine c_l3Ok hP ?_; simp only [hm, go_sem, ↓reduceIte])
  all_goals first
    | (apply bo_inj; simp [sackB, *]; done)
    | (apply bo_inj; rw [Bool.eq_iff_iff]; simp [sackB, *]; omega)
end Go.Cap

/- Contracts: associations are valid, twice. -/
namespace Go.Cap
open Go Go.Proofs
set_option maxRecDepth 100000
set_option linter.unusedSimpArgs false
set_option linter.unusedVariables false
attribute [local irreducible] Call Run Spec Le

def SFit (s : Side) : Prop := s.sent.length ≤ 2000000 ∧ ∀ d ∈ s.sent, d.text.length ≤ 9223372036854775807
theorem s_implAssocValid (a : Assoc) (ha : SFit a.a) (hb : SFit a.b) : Spec Try.prog 63 0 [] [a.ro] (fun r _ _ _ => r = .bo (assocB a)) := by
  refine mk63 rfl fun c hP hm => ?_
  unfold pc63 Assoc.ro Assoc.av
  have ka := ha.1
  have kb := hb.1
  have hw : IntKind.i64.wrap ((a.a.sent.length : Int) + (a.b.sent.length : Int)) = (a.a.sent.length : Int) + a.b.sent.length := wrap64 (by omega) (by omega)
  have hif := @assocB_iff a
  simp only [hw, hm, go_sem, ↓reduceIte]
  repeat' first | refine And.intro ?_ ?_ | intro _ | (refine call_pure (hP ▸ s_implSideValid a.a ha.1 ha.2) rfl rfl ?_; simp only [hw, hm, go_sem, ↓reduceIte]; cases hsa : sideB a.a <;> simp only [hw, hm, go_sem, ↓reduceIte]) | (refine call_pure (hP ▸ s_implSideValid a.b hb.1 hb.2) rfl rfl ?_; simp only [hw, hm, go_sem, ↓reduceIte]; cases hsb : sideB a.b <;> simp only [hw, hm, go_sem, ↓reduceIte])
  all_goals first
    | omega
    | (apply bo_inj
       rw [Bool.eq_iff_iff, hif]
       clear hif ha hb hP hm hw
       first
         | (simp_all; done)
         | (simp_all; omega)
         | (simp only [decide_eq_decide, inB, decide_eq_true_eq, decide_eq_false_iff_not] at *; simp only [true_iff]; refine ⟨by omega, by omega, by omega, by omega, by assumption, by assumption, by omega, by omega, by omega, ?_⟩; first | exact .inl (by assumption) | exact .inr (by omega))
         | (simp only [decide_eq_decide, inB, decide_eq_true_eq, decide_eq_false_iff_not] at *
            constructor
            · intro h5
              refine ⟨by omega, by omega, by omega, by omega, by assumption, by assumption, by omega, by omega, by omega, .inr h5⟩
            · rintro ⟨g1, g2, g3, g4, g5, g6, g7, g8, g9, g10⟩
              rcases g10 with g | g
              · simp_all
                done
              · exact g)
         | (simp only [decide_eq_decide, inB, decide_eq_true_eq, decide_eq_false_iff_not] at *; simp only [Bool.false_eq_true, false_iff]; rintro ⟨g1, g2, g3, g4, g5, g6, g7, g8, g9, g10⟩; first | omega | (simp_all; done) | (simp_all; omega)))
theorem s_l31Open (n : Int) : Spec Try.prog 118 0 [] [.i n] (fun r _ _ _ => r = .bo (inB n 3 7)) := by
  refine mk118 rfl fun c hP hm => ?_
  unfold pc118
  simp only [hm, go_sem, ↓reduceIte]
  refine c_l6In hP ?_
  simp only [hm, go_sem, ↓reduceIte]
theorem s_specAssocValid (a : Assoc) (ha : SFit a.a) (hb : SFit a.b) : Spec Try.prog 57 0 [] [a.ro] (fun r _ _ _ => r = .bo (assocB a)) := by
  refine mk57 rfl fun c hP hm => ?_
  unfold pc57 Assoc.ro Assoc.av
  have ka := ha.1
  have kb := hb.1
  have hw : IntKind.i64.wrap ((a.a.sent.length : Int) + (a.b.sent.length : Int)) = (a.a.sent.length : Int) + a.b.sent.length := wrap64 (by omega) (by omega)
  have hif := @assocB_iff a
  simp only [hw, hm, go_sem, ↓reduceIte]
  repeat' first | refine And.intro ?_ ?_ | intro _ | (refine c_l6In hP ?_; simp only [hw, hm, go_sem, ↓reduceIte]) | (refine call_pure (hP ▸ s_l31Open a.state) rfl rfl ?_; simp only [hw, hm, go_sem, ↓reduceIte]) | (refine call_pure (hP ▸ s_specSideValid a.a ha.1 ha.2) rfl rfl ?_; simp only [hw, hm, go_sem, ↓reduceIte]; cases hsa : sideB a.a <;> simp only [hw, hm, go_sem, ↓reduceIte]) | (refine call_pure (hP ▸ s_specSideValid a.b hb.1 hb.2) rfl rfl ?_; simp only [hw, hm, go_sem, ↓reduceIte]; cases hsb : sideB a.b <;> simp only [hw, hm, go_sem, ↓reduceIte])
  all_goals first
    | omega
    | (apply bo_inj
       rw [Bool.eq_iff_iff, hif]
       clear hif ha hb hP hm hw
       first
         | (simp_all; done)
         | (simp_all; omega)
         | (simp only [decide_eq_decide, inB, decide_eq_true_eq, decide_eq_false_iff_not] at *; simp only [true_iff]; refine ⟨by omega, by omega, by omega, by omega, by assumption, by assumption, by omega, by omega, by omega, ?_⟩; first | exact .inl (by assumption) | exact .inr (by omega))
         | (simp only [decide_eq_decide, inB, decide_eq_true_eq, decide_eq_false_iff_not] at *
            constructor
            · intro h5
              refine ⟨by omega, by omega, by omega, by omega, by assumption, by assumption, by omega, by omega, by omega, .inr h5⟩
            · rintro ⟨g1, g2, g3, g4, g5, g6, g7, g8, g9, g10⟩
              rcases g10 with g | g
              · simp_all
                done
              · exact g)
         | (simp only [decide_eq_decide, inB, decide_eq_true_eq, decide_eq_false_iff_not] at *; simp only [Bool.false_eq_true, false_iff]; rintro ⟨g1, g2, g3, g4, g5, g6, g7, g8, g9, g10⟩; first | omega | (simp_all; done) | (simp_all; omega)))
end Go.Cap

/- Contracts: marks that a law leaves in what the program returned. -/
namespace Go.Cap
open Go Go.Proofs
set_option maxRecDepth 100000
set_option linter.unusedSimpArgs false
set_option linter.unusedVariables false
attribute [local irreducible] Call Run Spec Le

/-- The digits of a number, ahead of a text. -/
def digits (n : Nat) (acc : List UInt8) : List UInt8 := if h : n = 0 then acc else digits (n / 10) (UInt8.ofNat (48 + n % 10) :: acc)
termination_by n
decreasing_by omega
theorem digits_zero (acc : List UInt8) : digits 0 acc = acc := by rw [digits]; rfl
theorem digits_pos {n : Nat} (h : n ≠ 0) (acc : List UInt8) : digits n acc = digits (n / 10) (UInt8.ofNat (48 + n % 10) :: acc) := by rw [digits, dif_neg h]
theorem digits_len (n : Nat) : ∀ acc, (digits n acc).length ≤ n + acc.length := by
  induction n using Nat.strongRecOn with
  | _ n ih =>
    intro acc
    by_cases h : n = 0
    · subst h; rw [digits_zero]; omega
    · rw [digits_pos h]
      refine Nat.le_trans (ih (n / 10) (by omega) _) ?_
      rw [List.length_cons]; omega
def markT (n : Int) : List UInt8 := if n ≤ 0 then [109, 48] else 109 :: digits n.toNat []
theorem tmod_nat (a b : Nat) : ((a : Int).tmod (b : Int)) = ((a % b : Nat) : Int) := rfl
theorem tdiv_nat (a b : Nat) : ((a : Int).tdiv (b : Int)) = ((a / b : Nat) : Int) := rfl
theorem s_markText (n : Int) (hn : n ≤ 1000000000) : Spec Try.prog 133 0 [] [.i n] (fun r _ _ _ => r = .st (markT n)) := by
  refine mk133 rfl fun c hP hm => ?_
  unfold pc133 markT
  simp only [go_sem, ↓reduceIte]
  refine ⟨fun h => ?_, fun h => ?_⟩
  · rw [if_pos h]
  · rw [if_neg (by omega)]
    obtain ⟨k, rfl⟩ := Int.eq_ofNat_of_zero_le (a := n) (by omega)
    refine run_exit 0 (fun t0 => t0 = ⟨[(3, .st (digits k []))], [], 0, []⟩) ?_ (fun t0 h => by rw [h]; simp only [go_sem, ↓reduceIte]; have := digits_len k []; simp only [List.length_nil] at this; exact ⟨by omega, by rw [Int.toNat_natCast]⟩)
    refine lp_wpc (α := Nat × List UInt8) (fun y => ⟨[(0, .i y.1), (3, .st y.2)], [], 0, []⟩) (fun y => y.2.length + y.1 ≤ k ∧ digits y.1 y.2 = digits k []) (fun y => y.1) (k, []) ⟨by simp, rfl⟩ (le_eq (by simp)) ?_
    rintro ⟨j, acc⟩ ⟨h1, h2⟩
    unfold pc133l0
    simp only at h1 h2
    simp only [go_sem, ↓reduceIte]
    have e10 : (10 : Int) = ((10 : Nat) : Int) := rfl
    rw [e10, tmod_nat, tdiv_nat]
    rw [wrap64 (x := 48 + ((j % 10 : Nat) : Int)) (by omega) (by omega), wrap64 (x := ((j / 10 : Nat) : Int)) (by omega) (by omega), wrapU8 (by omega) (by omega)]
    refine ⟨fun hlt => ⟨?_, by omega, (j / 10, UInt8.ofNat (48 + j % 10) :: acc), ⟨?_, ?_⟩, ?_, ?_⟩, fun hge => ?_⟩
    · rintro r rfl; exact ⟨_, rfl⟩
    · simp only [List.length_cons]; omega
    · rw [← h2, digits_pos (n := j) (by omega)]
    · simp only; omega
    · have eb : byteOf [.n .u8 (48 + ((j % 10 : Nat) : Int))] = UInt8.ofNat (48 + j % 10) := by
        show UInt8.ofNat (48 + ((j % 10 : Nat) : Int)).toNat = _
        congr 1
      rw [eb]
      exact le_ev [] (by simp only [hm, go_sem, ↓reduceIte])
    · have : j = 0 := by omega
      subst this
      rw [digits_zero] at h2
      rw [← h2]
      exact ⟨_, rfl, le_ev [] (by simp only [hm, go_sem, ↓reduceIte])⟩
/-- Marked rows. -/
def div3 (n : Int) : Bool := n.tmod 3 == 0
def markData (n : Int) : Data := ⟨n, n + 1, n + 2, div3 (n + 3), div3 (n + 4), div3 (n + 5), markT (n + 6)⟩
def marks {α : Type} (f : Int → α) (w : Int) (k : Nat) (n : Int) : List α := (List.range k).map fun (i : Nat) => f (n + w * (i : Int))
theorem marks_len {α : Type} (f : Int → α) (w : Int) (k : Nat) (n : Int) : (marks f w k n).length = k := by simp [marks]
theorem marks_succ {α : Type} (f : Int → α) (w : Int) (k : Nat) (n : Int) : marks f w (k + 1) n = marks f w k n ++ [f (n + w * k)] := by simp [marks, List.range_succ]
theorem marks_get {α : Type} (f : Int → α) (w : Int) {k i : Nat} (n : Int) (h : i < k) : (marks f w k n)[i]? = some (f (n + w * i)) := by simp [marks, h]
theorem s_markDataS (l : List Data) (n : Int) (hn : 0 ≤ n ∧ n ≤ 100000000) (hl : l.length ≤ 4000000) : Spec Try.prog 132 1 [(0, .row 7 (l.map Data.row))] [.sl 0 0 l.length, .i n] (Named fun r B => r = .i (n + 7 * l.length) ∧ B = .row 7 ((marks markData 7 l.length n).map Data.row)) := by
  refine Spec.named ?_
  refine mk132 rfl fun c hP hm => ?_
  unfold pc132
  simp only [go_sem, ↓reduceIte]
  refine run_exit 0 (fun t0 => t0 = ⟨[(1, .i (n + 7 * l.length))], [(0, .row 7 ((marks markData 7 l.length n).map Data.row))], 1, []⟩) ?_ (fun t0 h => by rw [h]; simp only [go_sem, ↓reduceIte]; exact ⟨_, rfl, rfl, rfl⟩)
  refine lp_wpc (α := Nat) (fun i => ⟨[(0, .sl 0 0 l.length), (1, .i (n + 7 * i)), (5, .i i)], [(0, .row 7 ((marks markData 7 i n).map Data.row ++ (l.drop i).map Data.row))], 1, []⟩) (fun i => i ≤ l.length) (fun i => l.length - i) 0 (Nat.zero_le _) (le_eq (by simp [marks])) ?_
  intro i hi
  unfold pc132l0
  rcases Nat.lt_or_ge i l.length with hil | hil
  · have hM : ((marks markData 7 i n).map Data.row).length = i := by rw [List.length_map, marks_len]
    have hA := congrArg (List.map Data.row) (marks_succ markData 7 i n)
    rw [List.map_append, List.map_cons, List.map_nil] at hA
    rw [mid_drop hil]
    generalize (marks markData 7 i n).map Data.row = A at hM hA
    have hBl : ((l.drop (i + 1)).map Data.row).length = l.length - (i + 1) := by simp
    generalize hB : (l.drop (i + 1)).map Data.row = B at hBl
    simp only [Int.toNat_natCast, mid_get hM, mid_set hM, mid_len, Data.row, go_sem, ↓reduceIte]
    simp (disch := omega) only [wrap64]
    intro _
    refine ⟨fun hlt => ?_, fun hge => absurd hge (by omega)⟩
    repeat' refine And.intro ?_ ?_
    all_goals first
      | omega
      | (refine call_pure (hP ▸ s_markText _ (by omega)) rfl rfl ?_
         simp only [Int.toNat_natCast, mid_get hM, mid_set hM, mid_len, go_sem, ↓reduceIte]
         simp (disch := omega) only [wrap64]
         refine ⟨⟨by omega, by omega⟩, by omega, i + 1, hil, by omega, le_ev [] ?_⟩
         rw [hA, hB]
         simp only [hm, markData, div3, Data.row, List.append_assoc, Int.natCast_add, Int.mul_add, Int.add_assoc, Int.reduceAdd, go_sem, ↓reduceIte]
         rfl)
  · have : i = l.length := by omega
    subst this
    simp only [go_sem, ↓reduceIte]
    exact fun _ => ⟨_, rfl, le_ev [] (by simp only [hm, List.drop_length, go_sem, ↓reduceIte])⟩
theorem s_markDataS_nil (n : Int) : Spec Try.prog 132 0 [] [.r .nil, .i n] (fun r _ _ _ => r = .i n) := by
  refine mk132 rfl fun c hP hm => ?_
  unfold pc132
  simp only [go_sem, ↓reduceIte]
  refine lp_wpc (α := Unit) (fun _ => ⟨[(0, .r .nil), (1, .i n), (5, .i 0)], [], 0, []⟩) (fun _ => True) (fun _ => 0) () trivial (Le.refl _) ?_
  intro i hi
  unfold pc132l0
  simp only [go_sem, ↓reduceIte]
theorem s_heldDataS (k : Nat) (n : Int) (hn : 0 ≤ n ∧ n ≤ 100000000) (hk : k ≤ 1000000) : Spec Try.prog 134 0 [] [.r (.ro none ((marks markData 7 k n).map Data.row)), .i n] (fun r _ _ _ => r = .i (n + 7 * k)) := by
  refine mk134 rfl fun c hP hm => ?_
  unfold pc134
  simp only [go_sem, ↓reduceIte]
  have hlen : (marks markData 7 k n).length = k := marks_len ..
  refine lp_wpc (α := Nat) (fun i => ⟨[(0, .r (.ro none ((marks markData 7 k n).map Data.row))), (1, .i (n + 7 * i)), (5, .i i)], [], 0, []⟩) (fun i => i ≤ k) (fun i => k - i) 0 (Nat.zero_le _) (le_eq (by simp)) ?_
  intro i hi
  unfold pc134l0
  rcases Nat.lt_or_ge i k with hik | hik
  · have hil : i < (marks markData 7 k n).length := by omega
    have hg : (marks markData 7 k n)[i] = markData (n + 7 * i) := by
      have := marks_get markData 7 n hik
      rw [List.getElem?_eq_getElem hil] at this
      exact Option.some.inj this
    simp only [Int.toNat_natCast, getD_map hil, hg, hlen, markData, Data.row, go_sem, ↓reduceIte]
    simp (disch := omega) only [wrap64]
    simp only [div3, Int.add_assoc, Int.reduceAdd, go_sem, ↓reduceIte]
    intro _
    refine ⟨fun hlt => ?_, fun hge => absurd hge (by omega)⟩
    repeat' refine And.intro ?_ ?_
    all_goals first
      | omega
      | (refine call_pure (hP ▸ s_markText _ (by omega)) rfl rfl ?_
         simp only [Int.toNat_natCast, getD_map hil, hg, markData, div3, Data.row, Int.add_assoc, Int.reduceAdd, go_sem, ↓reduceIte]
         simp (disch := omega) only [wrap64]
         repeat' refine And.intro ?_ ?_
         all_goals first
           | omega
           | exact ⟨i + 1, hik, by omega, le_eq (by simp only [Int.natCast_add, Int.mul_add, Int.add_assoc, Int.reduceAdd]; rfl)⟩)
  · have : i = k := by omega
    subst this
    simp only [hlen, go_sem, ↓reduceIte]
theorem s_eqData (x : Data) : Spec Try.prog 175 0 [] [x.av, x.av] (fun r _ _ _ => r = .bo true) := by
  refine mk175 rfl fun c hP hm => ?_
  unfold pc175 Data.av
  simp only [go_sem, ↓reduceIte]
theorem s_eqDataS (l : List Data) : Spec Try.prog 130 0 [] [.r (.ro none (l.map Data.row)), .r (.ro none (l.map Data.row))] (fun r _ _ _ => r = .bo true) := by
  refine mk130 rfl fun c hP hm => ?_
  unfold pc130
  simp only [go_sem, ↓reduceIte]
  intro hlen _
  refine lp_wpc (α := Nat) (fun i => ⟨[(0, .r (.ro none (l.map Data.row))), (1, .r (.ro none (l.map Data.row))), (5, .i i)], [], 0, []⟩) (fun i => i ≤ l.length) (fun i => l.length - i) 0 (Nat.zero_le _) (Le.refl _) ?_
  intro i hi
  unfold pc130l0
  simp only [go_sem, ↓reduceIte]
  intro _
  intro hlt
  have hil : i < l.length := by omega
  simp only [Int.toNat_natCast, getD_map hil, Data.row, go_sem, ↓reduceIte]
  refine ⟨⟨by omega, by omega⟩, ⟨by omega, by omega⟩, ?_⟩
  refine call_pure (hP ▸ s_eqData l[i]) rfl rfl ?_
  simp only [go_sem, ↓reduceIte]
  rw [wrap64 (by omega) (by omega)]
  exact ⟨i + 1, hil, by omega, Le.refl _⟩
end Go.Cap

/- Contracts: sizes, copies and marks of a side. -/
namespace Go.Cap
open Go Go.Proofs
set_option maxRecDepth 100000
set_option linter.unusedSimpArgs false
set_option linter.unusedVariables false
attribute [local irreducible] Call Run Spec Le

def szDatas (l : List Data) (left : Int) : Int := if left - l.length < 0 then -1 else szTexts (l.map fun s => (s.text.length : Int)) (left - l.length)
theorem s_szData (s : Data) (left : Int) (h : 0 ≤ left ∧ left ≤ 1048576) (ht : (s.text.length : Int) ≤ 9223372036854775807) : Spec Try.prog 161 0 [] [s.av, .i left] (fun r _ _ _ => r = .i (szText s.text.length left)) := by
  refine mk161 rfl fun c hP hm => ?_
  unfold pc161 Data.av
  simp only [go_sem, ↓reduceIte]
  rw [wrap64 (by omega) (by omega)]
  unfold szText
  refine ⟨fun h => ?_, fun h => ?_⟩
  · rw [if_pos h]
  · rw [if_neg (by omega)]
theorem s_szDataS (l : List Data) (left : Int) (h : 0 ≤ left ∧ left ≤ 1048576) (hl : (l.length : Int) ≤ 9223372036854775807) (ht : ∀ s ∈ l, (s.text.length : Int) ≤ 9223372036854775807) :
    Spec Try.prog 114 0 [] [.r (.ro none (l.map Data.row)), .i left] (fun r _ _ _ => r = .i (szDatas l left)) := by
  refine mk114 rfl fun c hP hm => ?_
  unfold pc114
  simp only [go_sem, ↓reduceIte]
  intro _
  rw [wrap64 (by omega) (by omega)]
  unfold szDatas
  refine ⟨fun h => ?_, fun h => ?_⟩
  · rw [if_pos h]
  · rw [if_neg (by omega)]
    refine lp_wpc (α := Nat × Int) (fun y => ⟨[(0, .r (.ro none (l.map Data.row))), (1, .i y.2), (5, .i y.1)], [], 0, []⟩)
      (fun y => y.1 ≤ l.length ∧ 0 ≤ y.2 ∧ y.2 ≤ 1048576 ∧ szTexts ((l.map fun s => (s.text.length : Int)).drop y.1) y.2 = szTexts (l.map fun s => (s.text.length : Int)) (left - l.length)) (fun y => l.length - y.1) (0, left - l.length)
      ⟨Nat.zero_le _, by omega, by omega, rfl⟩ (Le.refl _) ?_
    rintro ⟨i, x⟩ ⟨hi, hx0, hx1, hx⟩
    unfold pc114l0
    simp only [go_sem, ↓reduceIte]
    intro _
    refine ⟨fun hlt => ?_, fun hge => ?_⟩
    · have hil : i < l.length := by omega
      rw [szTexts_drop (by simpa using hil)] at hx
      simp only [List.getElem_map] at hx
      simp only [Int.toNat_natCast, getD_map hil, Data.row, go_sem, ↓reduceIte]
      refine ⟨⟨by omega, by omega⟩, ?_⟩
      refine call_pure (hP ▸ s_szData l[i] x ⟨hx0, hx1⟩ (ht _ (List.getElem_mem hil))) rfl rfl ?_
      simp only [go_sem, ↓reduceIte]
      refine ⟨fun hneg => ?_, fun hpos => ?_⟩
      · rw [if_pos hneg] at hx; rw [← hx]
      · rw [if_neg (by omega)] at hx
        rw [wrap64 (by omega) (by omega)]
        have := szText_le l[i].text.length x (by omega)
        exact ⟨(i + 1, szText l[i].text.length x), ⟨hil, by omega, by omega, hx⟩, by simp only; omega, Le.refl _⟩
    · have : i = l.length := by omega
      subst this
      rw [List.drop_eq_nil_of_le (by simp)] at hx
      rw [← hx]; rfl

theorem s_szSide (t : Side) (left : Int) (h : 0 ≤ left ∧ left ≤ 1048576) (hl : (t.sent.length : Int) ≤ 9223372036854775807) (ht : ∀ s ∈ t.sent, (s.text.length : Int) ≤ 9223372036854775807) :
    Spec Try.prog 55 0 [] [t.ro, .i left] (fun r _ _ _ => r = .i (if szDatas t.sent left < 0 then -1 else szDatas t.sent left)) := by
  refine mk55 rfl fun c hP hm => ?_
  unfold pc55 Side.ro Side.av
  simp only [go_sem, ↓reduceIte]
  refine call_pure (hP ▸ s_szDataS t.sent left h hl ht) rfl rfl ?_
  simp only [go_sem, ↓reduceIte]
  refine ⟨fun h => ?_, fun h => ?_⟩
  · rw [if_pos h]
  · rw [if_neg (by omega)]
theorem s_toData (x : Data) : Spec Try.prog 171 0 [] [x.av] (fun r _ _ _ => r = x.av) := by
  refine mk171 rfl fun c hP hm => ?_
  unfold pc171 Data.av
  simp only [go_sem, ↓reduceIte]
theorem s_toDataS (l : List Data) (hl : l.length ≤ 1048576) : Spec Try.prog 124 0 [] [.r (.ro none (l.map Data.row))] (New1 (.sl 0 0 l.length) 7 (l.map Data.row)) := by
  refine mk124 rfl fun c hP hm => ?_
  unfold pc124
  simp only [go_sem, ↓reduceIte]
  simp only [Int.toNat_natCast]
  intro _
  refine ⟨⟨by omega, by omega⟩, ?_⟩
  refine lp_wpc (α := Nat) (fun i => ⟨[(0, .r (.ro none (l.map Data.row))), (3, .sl 0 0 l.length), (4, .i i)], [(0, .row 7 ((l.map Data.row).take i ++ List.replicate ((l.map Data.row).length - i) [.n .i64 0, .n .i64 0, .n .i64 0, .b false, .b false, .b false, .s []]))], 1, []⟩)
    (fun i => i ≤ l.length) (fun i => l.length - i) 0 (Nat.zero_le _) (le_eq (by simp)) ?_
  intro i hi
  unfold pc124l0
  simp only [go_sem, ↓reduceIte]
  intro _
  refine ⟨fun hlt => ?_, fun hge => ?_⟩
  · have hil : i < l.length := by omega
    simp only [Int.toNat_natCast, getD_map hil, Data.row, go_sem, ↓reduceIte]
    refine ⟨⟨by omega, by omega⟩, ?_⟩
    refine call_pure (hP ▸ s_toData l[i]) rfl rfl ?_
    simp only [Data.av, go_sem, ↓reduceIte, Int.toNat_natCast]
    refine ⟨⟨by omega, by omega⟩, ?_, i + 1, hil, by omega, le_eq ?_⟩
    · simp; omega
    · have h1 := fill_set (M := l.map Data.row) (z := [.n .i64 0, .n .i64 0, .n .i64 0, .b false, .b false, .b false, .s []]) (i := i) (by simpa using hil)
      simp only [List.getElem_map, Data.row, List.length_map] at h1
      try simp only [List.length_map]
      rw [wrap64 (by omega) (by omega), ← h1]
      rfl
  · have : i = l.length := by omega
    subst this
    refine ⟨rfl, ?_, rfl, rfl⟩
    simp
    exact List.take_of_length_le (by simp)
/-- A talk's copy. -/
theorem s_toSide (t : Side) (hl : t.sent.length ≤ 1048576) : Spec Try.prog 61 0 [] [t.ro] (New1 (t.av (.sl 0 0 t.sent.length)) 7 (t.sent.map Data.row)) := by
  refine Spec.new1 (Q := fun r hp _ _ => r = t.av (.sl 3 0 t.sent.length) ∧ hget hp 3 = some (.row 7 (t.sent.map Data.row))) ?_ (fun r hp nx gs h => ⟨3, by rw [h.1]; rfl, h.2⟩) (fun f g h => by simp only [Side.av, go_sem, h])
  refine mk61 rfl fun c hP hm => ?_
  unfold pc61 Side.ro Side.av
  simp only [go_sem, ↓reduceIte]
  refine call_new1 (hP ▸ s_toDataS t.sent hl) rfl (dataClosed _) (vws_self _ _ rfl) ?_
  simp only [go_sem, ↓reduceIte]
theorem s_eqSide (s : Side) : Spec Try.prog 68 0 [] [s.ro, s.ro] (fun r _ _ _ => r = .bo true) := by
  refine mk68 rfl fun c hP hm => ?_
  unfold pc68 Side.ro Side.av
  simp only [go_sem, ↓reduceIte]
  refine call_pure (hP ▸ s_eqDataS s.sent) rfl rfl ?_
  simp only [go_sem, ↓reduceIte]
theorem s_markSide (s : Side) (n : Int) (hn : 0 ≤ n ∧ n ≤ 100000000) (hl : s.sent.length ≤ 4000000) : Spec Try.prog 70 1 [(0, .row 7 (s.sent.map Data.row))] [s.av (.sl 0 0 s.sent.length), .i n] (Named fun r B => r = .i (n + 7 * s.sent.length) ∧ B = .row 7 ((marks markData 7 s.sent.length n).map Data.row)) := by
  refine Spec.named ?_
  refine mk70 rfl fun c hP hm => ?_
  unfold pc70 Side.av
  simp only [go_sem, ↓reduceIte]
  refine call_named 0 (hP ▸ s_markDataS s.sent n hn hl) (by rfl) rfl (by rfl) ?_ ?_
  · rintro r B ⟨rfl, rfl⟩; exact ⟨rfl, rfl⟩
  · rintro r B ⟨rfl, rfl⟩
    simp only [go_sem, ↓reduceIte]
    exact ⟨_, rfl, rfl, rfl⟩
abbrev dataRow : List CT := [.i .i64, .i .i64, .i .i64, .b, .b, .b, .s]
theorem data_of (r : List RV) (h : RowOk dataRow r) : ∃ d : Data, r = d.row ∧ d.text.length ≤ maxLen := by
  obtain ⟨x0, r, rfl, h0, h⟩ := rowOk_cons h
  obtain ⟨x1, r, rfl, h1, h⟩ := rowOk_cons h
  obtain ⟨x2, r, rfl, h2, h⟩ := rowOk_cons h
  obtain ⟨x3, r, rfl, h3, h⟩ := rowOk_cons h
  obtain ⟨x4, r, rfl, h4, h⟩ := rowOk_cons h
  obtain ⟨x5, r, rfl, h5, h⟩ := rowOk_cons h
  obtain ⟨x6, r, rfl, h6, h⟩ := rowOk_cons h
  obtain rfl := rowOk_nil h
  obtain ⟨n0, rfl, _⟩ := okc_i h0
  obtain ⟨n1, rfl, _⟩ := okc_i h1
  obtain ⟨n2, rfl, _⟩ := okc_i h2
  obtain ⟨n3, rfl⟩ := okc_b h3
  obtain ⟨n4, rfl⟩ := okc_b h4
  obtain ⟨n5, rfl⟩ := okc_b h5
  obtain ⟨n6, rfl, hl⟩ := okc_s h6
  exact ⟨⟨n0, n1, n2, n3, n4, n5, n6⟩, rfl, hl⟩
end Go.Cap

/- Contracts: drawn texts and parts. -/
namespace Go.Cap
open Go Go.Proofs
set_option maxRecDepth 100000
set_option linter.unusedSimpArgs false
set_option linter.unusedVariables false
attribute [local irreducible] Call Run Spec Le

@[go_sem] theorem frzPH_rd (b n0 j : Nat) (code : List UInt8) (p : Int) (l : List (Nat × Blk)) : frzPH b n0 ((j, rdB code p) :: l) = (True ∧ frzPH b n0 l) := by
  simp only [rdB, frzPH, frzPB, frzP.frzPL, frzP, and_self]
@[go_sem] theorem frzH_rd (b : Nat) (L : List (List RV)) (j : Nat) (code : List UInt8) (p : Int) (l : List (Nat × Blk)) : frzH b L ((j, rdB code p) :: l) = (j, rdB code p) :: frzH b L l := (rfl)
end Go.Cap

/- Plain facts on assemblies: validity, what is told, what is left. -/
namespace Go.Cap
open Go Go.Proofs
set_option linter.unusedSimpArgs false
set_option linter.unusedVariables false

theorem restFrom_sub (p : List Nat) : ∀ (l : List Data) (i : Nat), (restFrom p i l).Sublist l
  | [], i => by simp [restFrom]
  | d :: l, i => by
    simp only [restFrom]
    split
    · exact (restFrom_sub p l (i + 1)).cons _
    · exact (restFrom_sub p l (i + 1)).cons_cons _
theorem takeOut_nlen (a : Asm) (p : List Nat) : (takeOut a p).next.length = a.next.length := by unfold takeOut; simp only; split <;> simp
/-- Settling, step by step. -/
inductive Stl : Asm → List Msg → Asm → List Msg → Prop
  | stop (a : Asm) (ms : List Msg) : due a = none → Stl a ms a ms
  | step (a : Asm) (ms : List Msg) (p : List Nat) (a' : Asm) (ms' : List Msg) : AsmOk a → due a = some p → Stl (takeOut a p) (ms ++ [msgOf a p]) a' ms' → Stl a ms a' ms'
theorem Stl.more {a a' : Asm} {ms ms' : List Msg} (h : Stl a ms a' ms') : ∃ t, ms' = ms ++ t ∧ (t = [] → a' = a) := by
  induction h with
  | stop a ms _ => exact ⟨[], by simp, fun _ => rfl⟩
  | step a ms p a' ms' ok hd _ ih =>
    obtain ⟨t, h1, _⟩ := ih
    exact ⟨msgOf a p :: t, by rw [h1, List.append_assoc]; rfl, fun h => by cases h⟩
end Go.Cap

/- Plain facts on settling: numbers, messages without order, bytes. -/
namespace Go.Cap
open Go Go.Proofs
set_option linter.unusedSimpArgs false
set_option linter.unusedVariables false

/-- A part that is a message by itself is told, if it has no order. -/
theorem Stl.loose {a a' : Asm} {ms ms' : List Msg} (h : Stl a ms a' ms') {d : Data} (h1 : d.first = true) (h2 : d.last = true) (h3 : d.loose = true) : (a.parts.map Data.tsn).Nodup → d ∈ a.parts → ⟨d.stream, d.ssn, true, d.text⟩ ∈ ms' := by
  induction h with
  | stop a ms hd =>
    intro hn hm
    exfalso
    obtain ⟨i, hi, rfl⟩ := List.getElem_of_mem hm
    have hda := dataAt_eq hi
    have hl : a.parts.length = (a.parts.length - 1) + 1 := by omega
    have hc : chain a.parts i = some [i] := by unfold chain; rw [hl, chainN, hda, if_pos h2]
    have hda2 : dueAt a i = some [i] := by unfold dueAt; rw [hda, if_pos (by simp [h1, h3]), hc]
    have key : ∀ l : List Nat, dueFrom a l = none → ∀ i ∈ l, dueAt a i = none := by
      intro l
      induction l with
      | nil => intro _ i hi; cases hi
      | cons x l ih =>
        intro h i hi
        rw [dueFrom] at h
        cases hx : dueAt a x with
        | some q => rw [hx] at h; cases h
        | none =>
          rw [hx] at h
          rcases List.mem_cons.1 hi with rfl | hi
          · exact hx
          · exact ih h i hi
    have := key _ hd i (List.mem_range.2 hi)
    rw [hda2] at this; cases this
  | step a ms p a' ms' ok hd st ih =>
    intro hn hm
    have hdo := due_ok ok hd
    obtain ⟨i, hi, rfl⟩ := List.getElem_of_mem hm
    have hda := dataAt_eq hi
    by_cases hip : i ∈ p
    · -- the chain is this part alone
      obtain ⟨j, hj, hdj⟩ := due_some hd
      have hp : p = [i] := by
        unfold dueAt at hdj
        split at hdj
        · rename_i hc
          unfold chain at hdj
          obtain ⟨l, hl⟩ : ∃ l, a.parts.length = l + 1 := ⟨a.parts.length - 1, by omega⟩
          rw [hl, chainN] at hdj
          split at hdj
          · cases hdj
            simp only [List.mem_singleton] at hip
            rw [hip]
          · rename_i hjl
            exfalso
            have hnf : ∀ (n k : Nat) (q : List Nat), chainN n a.parts k = some q → (dataAt a.parts k).first = false → ∀ x ∈ q, (dataAt a.parts x).first = false := by
              intro n
              induction n with
              | zero => intro k q h; cases h
              | succ n ihn =>
                intro k q h hk x hx
                rw [chainN] at h
                split at h
                · cases h; simp only [List.mem_singleton] at hx; rw [hx]; exact hk
                · cases hnx : nextIx a.parts k with
                  | none => rw [hnx] at h; cases h
                  | some y =>
                    rw [hnx] at h
                    simp only at h
                    have hyf : (dataAt a.parts y).first = false := by
                      unfold nextIx at hnx
                      split at hnx
                      · split at hnx
                        · cases hnx
                        · rename_i hcc
                          cases hnx
                          simp only [Bool.or_eq_true, not_or] at hcc
                          simpa using hcc.1
                      · cases hnx
                    cases hcn : chainN n a.parts y with
                    | none => rw [hcn] at h; cases h
                    | some t =>
                      rw [hcn] at h
                      cases h
                      rcases List.mem_cons.1 hx with rfl | hx
                      · exact hk
                      · exact ihn y t hcn hyf x hx
            cases hnx : nextIx a.parts j with
            | none => rw [hnx] at hdj; cases hdj
            | some y =>
              rw [hnx] at hdj
              simp only at hdj
              have hyf : (dataAt a.parts y).first = false := by
                unfold nextIx at hnx
                split at hnx
                · split at hnx
                  · cases hnx
                  · rename_i hcc
                    cases hnx
                    simp only [Bool.or_eq_true, not_or] at hcc
                    simpa using hcc.1
                · cases hnx
              cases hcn : chainN l a.parts y with
              | none => rw [hcn] at hdj; cases hdj
              | some t =>
                rw [hcn] at hdj
                cases hdj
                rcases List.mem_cons.1 hip with rfl | hip
                · rw [hda, h2] at hjl; exact hjl rfl
                · have := hnf _ _ _ hcn hyf i hip
                  rw [hda, h1] at this; cases this
        · cases hdj
      obtain ⟨t, ht, _⟩ := st.more
      rw [ht, List.append_assoc]
      refine List.mem_append_right _ (List.mem_append_left _ ?_)
      rw [hp]
      simp only [List.mem_singleton, msgOf, List.headD_cons, hda, textOfIx, List.flatMap_cons, List.flatMap_nil, List.append_nil, h3]
    · refine ih (hn.sublist ((restFrom_sub p a.parts 0).map _)) ?_
      show a.parts[i] ∈ restFrom p 0 a.parts
      have key : ∀ (l : List Data) (k j : Nat) (hj : j < l.length), k + j ∉ p → l[j] ∈ restFrom p k l := by
        intro l
        induction l with
        | nil => intro k j hj; simp at hj
        | cons x l ihl =>
          intro k j hj hnp
          rw [restFrom]
          cases j with
          | zero =>
            rw [if_neg (by simpa using hnp)]
            exact List.mem_cons_self ..
          | succ j =>
            have := ihl (k + 1) j (by simpa using hj) (by rw [Nat.add_assoc, Nat.add_comm 1 j]; exact hnp)
            split
            · exact this
            · exact List.mem_cons_of_mem _ this
      exact key a.parts 0 i hi (by rw [Nat.zero_add]; exact hip)
end Go.Cap

/- Plain facts on runs of assemblies: prefixes, numbers of messages. -/
namespace Go.Cap
open Go Go.Proofs
set_option linter.unusedSimpArgs false
set_option linter.unusedVariables false

theorem Stl.streams {a a' : Asm} {ms ms' : List Msg} (h : Stl a ms a' ms') : (∀ m ∈ ms, m.stream < a.next.length) → ∀ m ∈ ms', m.stream < a.next.length := by
  induction h with
  | stop a ms _ => exact fun h => h
  | step a ms p a' ms' ok hd _ ih =>
    intro h
    have hdo := due_ok ok hd
    rw [takeOut_nlen] at ih
    refine ih fun m hm => ?_
    rcases List.mem_append.1 hm with hm | hm
    · exact h m hm
    · simp only [List.mem_singleton] at hm
      subst hm
      obtain ⟨k0, pt, hp0⟩ : ∃ k0 pt, p = k0 :: pt := by cases p with
        | nil => exact absurd rfl hdo.ne
        | cons a b => exact ⟨a, b, rfl⟩
      have hk0 : k0 < a.parts.length := hdo.lt k0 (by rw [hp0]; simp)
      have := ok.stream _ (List.getElem_mem hk0)
      unfold msgOf
      rw [hp0]
      simp only [List.headD_cons, dataAt_eq hk0]
      exact this.2
end Go.Cap

/- Contracts: copies, sizes and equality of associations and monitors, as data. -/
namespace Go.Cap
open Go Go.Proofs
set_option maxRecDepth 100000
set_option linter.unusedSimpArgs false
set_option linter.unusedVariables false
attribute [local irreducible] Call Run Spec Le

theorem s_toDataSP (l : List Data) (hl : l.length ≤ 1048576) : Spec Try.prog 124 0 [] [.r (.ro none (l.map Data.row))] (Plain fun r => r = .r (.ro none (l.map Data.row))) := by
  have := s_toDataS l hl
  rw [← List.length_map (f := Data.row)] at this
  exact this.dataP
theorem s_toSideP (t : Side) (hl : t.sent.length ≤ 1048576) : Spec Try.prog 61 0 [] [t.ro] (fun r _ _ _ => r = t.ro) := by
  refine mk61 rfl fun c hP hm => ?_
  unfold pc61 Side.ro Side.av
  simp only [hm, go_sem, ↓reduceIte]
  refine call_dataP (hP ▸ s_toDataSP t.sent hl) rfl rfl ?_
  simp only [hm, go_sem, ↓reduceIte]
theorem s_toAssocP (a : Assoc) (ha : a.a.sent.length ≤ 1048576) (hb : a.b.sent.length ≤ 1048576) : Spec Try.prog 23 0 [] [a.ro] (fun r _ _ _ => r = a.ro) := by
  refine mk23 rfl fun c hP hm => ?_
  unfold pc23 Assoc.ro Assoc.av
  simp only [hm, go_sem, ↓reduceIte]
  refine call_data (hP ▸ s_toSideP a.a ha) rfl rfl ?_
  simp only [Side.ro, Side.av, hm, go_sem, ↓reduceIte]
  refine call_data (hP ▸ s_toSideP a.b hb) rfl rfl ?_
  simp only [Side.ro, Side.av, hm, go_sem, ↓reduceIte]
/-- Equality with itself. -/
theorem s_eqAssoc (a : Assoc) : Spec Try.prog 26 0 [] [a.ro, a.ro] (fun r _ _ _ => r = .bo true) := by
  refine mk26 rfl fun c hP hm => ?_
  unfold pc26 Assoc.ro Assoc.av
  simp only [hm, go_sem, ↓reduceIte]
  refine call_pure (hP ▸ s_eqSide a.a) rfl rfl ?_
  simp only [hm, go_sem, ↓reduceIte]
  refine call_pure (hP ▸ s_eqSide a.b) rfl rfl ?_
  simp only [hm, go_sem, ↓reduceIte]
end Go.Cap

/- Contracts: draws of talks as data; equality of packets; packets are valid, twice. -/
namespace Go.Cap
open Go Go.Proofs
set_option maxRecDepth 100000
set_option linter.unusedSimpArgs false
set_option linter.unusedVariables false
attribute [local irreducible] Call Run Spec Le

theorem s_implChunkValid (c : Chunk) : Spec Try.prog 126 0 [] [c.av] (fun r _ _ _ => r = .bo (chunkB c)) := by
  refine mk126 rfl fun cx hP hm => ?_
  unfold pc126 Chunk.av
  simp only [hm, go_sem, ↓reduceIte]
  repeat' first | refine And.intro ?_ ?_ | intro _
  all_goals (apply bo_inj; rw [Bool.eq_iff_iff]; simp [chunkB, inB] <;> omega)
theorem s_implPacketValid (p : Packet) : Spec Try.prog 64 0 [] [p.ro] (fun r _ _ _ => r = .bo (packB p)) := by
  refine mr64 rfl fun c hP hm => ?_
  unfold pc64 Packet.ro
  refine run_seq (run_wpc _ _ _ _ _ ?_)
  simp only [hm, go_sem, ↓reduceIte]
  refine run_seq (run_wpc _ _ _ _ _ ?_)
  simp only [hm, go_sem, ↓reduceIte]
  repeat' first | refine And.intro ?_ ?_ | intro _
  all_goals first
    | (apply bo_inj; symm; rw [Bool.eq_false_iff]; intro hh; simp only [packB, inB, Bool.and_eq_true, decide_eq_true_eq] at hh; omega)
    | skip
  refine run_wpc _ _ _ _ _ ?_
  simp only [hm, go_sem, ↓reduceIte]
  intro _
  refine lp_wpc (α := Nat) (fun i => ⟨[(53, .r (.ro none (p.chunks.map Chunk.row))), (54, .i p.chunks.length), (55, .i i)], [], 0, []⟩)
    (fun i => i ≤ p.chunks.length ∧ ∀ c ∈ p.chunks.take i, chunkB c = true) (fun i => p.chunks.length - i) 0 ⟨Nat.zero_le _, fun c hc => by simp at hc⟩ (by (refine le_ev [] ?_; simp only [hm, go_sem, ↓reduceIte]; first | done | rfl | exact ⟨rfl, rfl⟩)) ?_
  rintro i ⟨hi, hI⟩
  unfold pc64l0
  rcases Nat.lt_or_ge i p.chunks.length with hil | hil
  · have hw : IntKind.i64.wrap ((i : Int) + 1) = ((i + 1 : Nat) : Int) := by rw [wrap64 (by omega) (by omega)]; omega
    have hg := getD_map (f := Chunk.row) hil
    have htk := take_get hil
    have hmem := List.getElem_mem hil
    generalize p.chunks[i] = x at hg htk hmem
    have hok : chunkB x = false → AV.r (RV.b false) = AV.bo (packB p) := fun h => by
      apply bo_inj; symm; rw [Bool.eq_false_iff]; intro hh
      simp only [packB, Bool.and_eq_true, List.all_eq_true] at hh
      rw [hh.2 x hmem] at h; cases h
    simp only [hw, Int.toNat_natCast, hg, Chunk.row, hm, go_sem, ↓reduceIte]
    repeat' first | refine And.intro ?_ ?_ | intro _ | (refine call_pure (hP ▸ s_implChunkValid x) rfl rfl ?_; simp only [hw, Int.toNat_natCast, hg, Chunk.row, hm, go_sem, ↓reduceIte])
    all_goals first
      | omega
      | rfl
      | (rename_i hc; exact hok hc)
      | (rename_i hc
         refine ⟨i + 1, ⟨hil, fun y hy => ?_⟩, by omega, ?_⟩
         · rw [htk] at hy
           rcases List.mem_append.1 hy with hy | hy
           · exact hI y hy
           · simp only [List.mem_singleton] at hy; subst hy; exact hc
         · (refine le_ev [] ?_; simp only [hm, go_sem, ↓reduceIte]; first | done | rfl | exact ⟨rfl, rfl⟩))
  · have : i = p.chunks.length := by omega
    subst this
    rw [List.take_length] at hI
    have hall : p.chunks.all chunkB = true := List.all_eq_true.2 hI
    simp only [hm, go_sem, ↓reduceIte]
    repeat' first | refine And.intro ?_ ?_ | intro _
    all_goals first
      | omega
      | (apply bo_inj; symm; simp only [packB, inB, hall, Bool.and_eq_true, decide_eq_true_eq, and_true]; omega)
end Go.Cap

/- Contracts: sums; bytes of chunks and packets, twice. -/
namespace Go.Cap
open Go Go.Proofs
set_option maxRecDepth 100000
set_option linter.unusedSimpArgs false
set_option linter.unusedVariables false
attribute [local irreducible] Call Run Spec Le

theorem kb {k f : Int} (hk : 0 ≤ k ∧ k ≤ 255) (hf : 0 ≤ f ∧ f ≤ 255) : [byteOf [.n .u8 (IntKind.u8.wrap k)], byteOf [.n .u8 (IntKind.u8.wrap f)]] = [u8 k, u8 f] := by
  simp only [byteOf_u8, wrap_u8]
  rw [Int.emod_eq_of_lt (a := k) (by omega) (by omega), Int.emod_eq_of_lt (a := f) (by omega) (by omega)]
end Go.Cap

/- Contracts: bytes of packets (the reference's). -/
namespace Go.Cap
open Go Go.Proofs
set_option maxRecDepth 100000
set_option linter.unusedSimpArgs false
set_option linter.unusedVariables false
attribute [local irreducible] Call Run Spec Le

theorem s_specChunkValid (c : Chunk) : Spec Try.prog 119 0 [] [c.av] (fun r _ _ _ => r = .bo (chunkB c)) := by
  refine mk119 rfl fun cx hP hm => ?_
  unfold pc119 Chunk.av
  simp only [hm, go_sem, ↓reduceIte]
  repeat' first | refine And.intro ?_ ?_ | intro _ | (refine c_l6In hP ?_; simp only [hm, go_sem, ↓reduceIte])
  all_goals (apply bo_inj; rw [Bool.eq_iff_iff]; simp [chunkB, *] <;> omega)
theorem s_specPacketValid (p : Packet) (hl : p.chunks.length ≤ 2000000) : Spec Try.prog 58 0 [] [p.ro] (fun r _ _ _ => r = .bo (packB p)) := by
  refine mr58 rfl fun c hP hm => ?_
  unfold pc58 Packet.ro
  refine run_seq (run_wpc _ _ _ _ _ ?_)
  simp only [hm, go_sem, ↓reduceIte]
  refine run_seq (run_wpc _ _ _ _ _ ?_)
  simp only [hm, go_sem, ↓reduceIte]
  refine run_exit 0 (fun t0 => t0 = ⟨[(1, .ptr 0 0 0)], [(0, .var [.i p.fr, .i p.to, .i p.tag, .r (.ro none (p.chunks.map Chunk.row))])], 1, []⟩ ∧ p.chunks.all chunkB = true) ?_ ?_
  · refine lp_wpc (α := Nat) (fun i => ⟨[(1, .ptr 0 0 0), (3, .i i)], [(0, .var [.i p.fr, .i p.to, .i p.tag, .r (.ro none (p.chunks.map Chunk.row))])], 1, []⟩)
      (fun i => i ≤ p.chunks.length ∧ ∀ c ∈ p.chunks.take i, chunkB c = true) (fun i => p.chunks.length - i) 0 ⟨Nat.zero_le _, fun c hc => by simp at hc⟩ (by (refine le_ev [] ?_; simp only [hm, go_sem, ↓reduceIte]; first | done | rfl | exact ⟨rfl, rfl⟩)) ?_
    rintro i ⟨hi, hI⟩
    unfold pc58l0
    rcases Nat.lt_or_ge i p.chunks.length with hil | hil
    · have hw : IntKind.i64.wrap ((i : Int) + 1) = ((i + 1 : Nat) : Int) := by rw [wrap64 (by omega) (by omega)]; omega
      have hg := getD_map (f := Chunk.row) hil
      have htk := take_get hil
      have hmem := List.getElem_mem hil
      generalize p.chunks[i] = x at hg htk hmem
      have hok : chunkB x = false → AV.r (RV.b false) = AV.bo (packB p) := fun h => by
        apply bo_inj; symm; rw [Bool.eq_false_iff]; intro hh
        simp only [packB, Bool.and_eq_true, List.all_eq_true] at hh
        rw [hh.2 x hmem] at h; cases h
      simp only [hw, Int.toNat_natCast, hg, Chunk.row, hm, go_sem, ↓reduceIte]
      repeat' first | refine And.intro ?_ ?_ | intro _ | (refine call_pure (hP ▸ s_specChunkValid x) rfl rfl ?_; simp only [hw, Int.toNat_natCast, hg, Chunk.row, hm, go_sem, ↓reduceIte])
      all_goals first
        | omega
        | rfl
        | (rename_i hc; exact hok hc)
        | (rename_i hc
           refine ⟨i + 1, ⟨hil, fun y hy => ?_⟩, by omega, ?_⟩
           · rw [htk] at hy
             rcases List.mem_append.1 hy with hy | hy
             · exact hI y hy
             · simp only [List.mem_singleton] at hy; subst hy; exact hc
           · (refine le_ev [] ?_; simp only [hm, go_sem, ↓reduceIte]; first | done | rfl | exact ⟨rfl, rfl⟩))
    · have : i = p.chunks.length := by omega
      subst this
      rw [List.take_length] at hI
      have hall : p.chunks.all chunkB = true := List.all_eq_true.2 hI
      simp only [hm, go_sem, ↓reduceIte]
      repeat' first | refine And.intro ?_ ?_ | intro _
      all_goals first
        | omega
        | (refine ⟨_, ⟨rfl, hall⟩, ?_⟩; (refine le_ev [] ?_; simp only [hm, go_sem, ↓reduceIte]; first | done | rfl | exact ⟨rfl, rfl⟩))
  rintro t0 ⟨rfl, hall⟩
  rw [if_pos rfl]
  refine run_wpc _ _ _ _ _ ?_
  simp only [hm, go_sem, ↓reduceIte]
  repeat' first | refine And.intro ?_ ?_ | intro _ | (refine c_l6In hP ?_; simp only [hm, go_sem, ↓reduceIte])
  all_goals first
    | (apply bo_inj; rw [Bool.eq_iff_iff]; simp [packB, hall, *]; done)
    | (apply bo_inj; rw [Bool.eq_iff_iff]; simp [packB, hall, inB, *]; omega)
    | (apply bo_inj; rw [Bool.eq_iff_iff]; simp only [packB, hall, Bool.and_eq_true, decide_eq_true_eq, *]; simp [inB] at *; omega)
end Go.Cap

/- Contracts: the reference reads parts, inits and receipts. -/
namespace Go.Cap
open Go Go.Proofs
set_option maxRecDepth 100000
set_option linter.unusedSimpArgs false
set_option linter.unusedVariables false
attribute [local irreducible] Call Run Spec Le

theorem s_l1At (s : List UInt8) (i : Int) (h : 0 ≤ i ∧ i + 1 < s.length) (hs : s.length ≤ 1000000000) : Spec Try.prog 183 0 [] [.st s, .i i] (fun r _ _ _ => r = .i (at2 s i.toNat)) := by
  refine mk183 rfl fun c hP hm => ?_
  unfold pc183
  simp only [hm, go_sem, ↓reduceIte]
  have h1 := byte_lt (s.getD i.toNat 0)
  have e : (i + 1).toNat = i.toNat + 1 := by omega
  have hw : IntKind.i64.wrap (i + 1) = i + 1 := wrap64 (by omega) (by omega)
  have h2 := byte_lt (s.getD (i.toNat + 1) 0)
  have h3 : (0 : Int) ≤ (s.getD i.toNat 0).toNat := Int.natCast_nonneg _
  have h4 : (0 : Int) ≤ (s.getD (i.toNat + 1) 0).toNat := Int.natCast_nonneg _
  unfold at2
  rw [hw, e]
  generalize ((s.getD i.toNat 0).toNat : Int) = a at *
  generalize ((s.getD (i.toNat + 1) 0).toNat : Int) = b at *
  repeat' first | refine And.intro ?_ ?_ | intro _
  all_goals first
    | omega
    | rfl
    | (simp (disch := omega) only [wrap64])
theorem c_l1At {c : Cx} (hP : c.P = Try.prog) {s : List UInt8} {i : Int} (h : 0 ≤ i ∧ i + 1 < s.length) (hs : s.length ≤ 1000000000) {st : St} {K : AV → St → Prop} (hK : K (.i (at2 s i.toNat)) st) : Call c 183 [.st s, .i i] st K :=
  call_pure (hP ▸ s_l1At s i h hs) rfl rfl hK
theorem tdiv_nn {a b : Int} (h : 0 ≤ a) : a.tdiv b = a / b := Int.tdiv_eq_ediv_of_nonneg h
theorem tmod_nn {a b : Int} (h : 0 ≤ a) : a.tmod b = a % b := Int.tmod_eq_emod_of_nonneg h
theorem beq_dec (a b : Int) : (a == b) = decide (a = b) := by by_cases h : a = b <;> simp [h]
theorem inB_iff {a b c : Int} : inB a b c = true ↔ b ≤ a ∧ a ≤ c := by unfold inB; simp
def dataRaw (k : Chunk) : Data := ⟨at2 k.body 0, at2 k.body 2, at2 k.body 4, (IntKind.i64.wrap (k.flags.tdiv 2)).tmod 2 == 1, k.flags.tmod 2 == 1, IntKind.i64.wrap (k.flags.tdiv 4) == 1, List.drop 6 (List.take ((k.body.length : Int)).toNat k.body)⟩
theorem dataOf_eq {k : Chunk} (hf : inB k.flags 0 7 = true) : dataOf k = dataRaw k := by
  obtain ⟨h0, h7⟩ := inB_iff.1 hf
  unfold dataOf dataRaw
  rw [tdiv_nn h0, tmod_nn h0, tdiv_nn h0, wrap64 (by omega) (by omega), wrap64 (by omega) (by omega), tmod_nn (by omega), beq_dec, beq_dec, beq_dec, Int.toNat_natCast, List.take_length]
theorem dataGet_none {k : Chunk} (h : k.kind = 0 → inB k.flags 0 7 = true → 6 ≤ k.body.length → dataB (dataOf k) = true → False) : dataGet k = none := by
  unfold dataGet
  rw [if_neg]
  simp only [Bool.and_eq_true, decide_eq_true_eq]
  rintro ⟨⟨⟨h1, h2⟩, h3⟩, h4⟩
  exact h h1 h2 h3 h4
theorem dataGet_some {k : Chunk} (h1 : k.kind = 0) (h2 : inB k.flags 0 7 = true) (h3 : 6 ≤ k.body.length) (h4 : dataB (dataOf k) = true) : dataGet k = some (dataOf k) := by
  unfold dataGet
  rw [if_pos]
  simp only [Bool.and_eq_true, decide_eq_true_eq]
  exact ⟨⟨⟨h1, h2⟩, h3⟩, h4⟩
theorem s_specDataGet (k : Chunk) (hs : k.body.length ≤ 1000000000) : Spec Try.prog 180 0 [] [k.av] (fun r _ _ _ => r = .tup [((dataGet k).getD noData).av, .bo (dataGet k).isSome]) := by
  refine mk180 rfl fun c hP hm => ?_
  unfold pc180 Chunk.av
  simp only [hm, go_sem, ↓reduceIte]
  repeat' first
    | refine And.intro ?_ ?_
    | intro _
    | (refine c_l6In hP ?_; simp only [hm, go_sem, ↓reduceIte])
    | (refine c_l1At hP (by omega) hs ?_; simp only [hm, go_sem, ↓reduceIte])
    | (refine call_pure (hP ▸ s_l12Data (dataRaw k) (by simp [dataRaw]; omega)) rfl rfl ?_; simp only [hm, go_sem, ↓reduceIte])
  all_goals first
    | omega
    | (rename_i hk hf hl hB; rw [dataGet_some hk hf (by omega) (by rw [dataOf_eq hf]; exact hB), dataOf_eq hf]; rfl)
    | (rename_i hB; rw [dataGet_none (k := k) fun h1 h2 h3 h4 => by rw [dataOf_eq h2, hB] at h4; cases h4]; rfl)
    | (rw [dataGet_none (k := k) fun h1 h2 h3 h4 => by first | omega | (simp_all; done)]; rfl)
theorem initGet_none {k : Chunk} (h : (k.kind = 1 ∨ k.kind = 2) → k.flags = 0 → k.body.length = 10 → initB (initOf k) = true → False) : initGet k = none := by
  unfold initGet
  rw [if_neg]
  simp only [Bool.and_eq_true, decide_eq_true_eq]
  rintro ⟨⟨⟨h1, h2⟩, h3⟩, h4⟩
  exact h h1 h2 h3 h4
theorem initGet_some {k : Chunk} (h1 : k.kind = 1 ∨ k.kind = 2) (h2 : k.flags = 0) (h3 : k.body.length = 10) (h4 : initB (initOf k) = true) : initGet k = some (initOf k) := by
  unfold initGet
  rw [if_pos]
  simp only [Bool.and_eq_true, decide_eq_true_eq]
  exact ⟨⟨⟨h1, h2⟩, h3⟩, h4⟩
theorem at4_wrap (s : List UInt8) (i : Nat) : IntKind.i64.wrap (IntKind.i64.wrap (65536 * at2 s i) + at2 s (i + 2)) = at4 s i := by
  have h1 := at2_range s i
  have h2 := at2_range s (i + 2)
  rw [wrap64 (x := 65536 * at2 s i) (by omega) (by omega), wrap64 (by omega) (by omega)]; rfl
theorem s_specInitGet (k : Chunk) (hs : k.body.length ≤ 1000000000) : Spec Try.prog 178 0 [] [k.av] (fun r _ _ _ => r = .tup [((initGet k).getD noInit).av, .bo (initGet k).isSome]) := by
  refine mk178 rfl fun c hP hm => ?_
  unfold pc178 Chunk.av
  have e4 := at4_wrap k.body 0
  simp only [hm, go_sem, ↓reduceIte]
  repeat' first
    | refine And.intro ?_ ?_
    | intro _
    | (refine c_l6In hP ?_; simp only [hm, go_sem, ↓reduceIte])
    | (refine c_l1At hP (by omega) hs ?_; simp only [hm, go_sem, ↓reduceIte])
    | (simp only [e4, hm, go_sem, ↓reduceIte]; refine call_pure (hP ▸ s_l12Init (initOf k)) rfl rfl ?_; simp only [hm, go_sem, ↓reduceIte])
    | (refine call_pure (hP ▸ s_l12Init ⟨_, _, _, _⟩) rfl rfl ?_; simp only [hm, go_sem, ↓reduceIte])
  all_goals first
    | omega
    | (rename_i hB; rw [initGet_some (k := k) (by omega) (by omega) (by omega) (by exact hB)]; rfl)
    | (rename_i hB; rw [initGet_none (k := k) fun h1 h2 h3 h4 => by rw [hB] at h4; cases h4]; rfl)
    | (rw [initGet_none (k := k) fun h1 h2 h3 h4 => by first | omega | (simp_all; done)]; rfl)
end Go.Cap

/- Contracts: the program reads numbers, parts and inits. -/
namespace Go.Cap
open Go Go.Proofs
set_option maxRecDepth 100000
set_option linter.unusedSimpArgs false
set_option linter.unusedVariables false
attribute [local irreducible] Call Run Spec Le

theorem or64 {a b k : Nat} (hb : b < 2 ^ k) (h : a * 2 ^ k + b < 2 ^ 62) : bitOr .i64 ((a * 2 ^ k : Nat) : Int) (b : Int) = ((a * 2 ^ k + b : Nat) : Int) := by
  have hb62 : b < 2 ^ 64 := by omega
  have ha62 : a * 2 ^ k < 2 ^ 64 := by omega
  have e3 : a * 2 ^ k ||| b = a * 2 ^ k + b := by
    have := Nat.shiftLeft_add_eq_or_of_lt hb a
    rw [Nat.shiftLeft_eq] at this
    exact this.symm
  have e0 : bitOr .i64 ((a * 2 ^ k : Nat) : Int) (b : Int) = IntKind.i64.wrap ((BitVec.ofInt 64 ((a * 2 ^ k : Nat) : Int) ||| BitVec.ofInt 64 (b : Int) : BitVec 64).toNat : Nat) := rfl
  rw [e0, BitVec.ofInt_natCast, BitVec.ofInt_natCast, BitVec.toNat_or, BitVec.toNat_ofNat, BitVec.toNat_ofNat, Nat.mod_eq_of_lt ha62, Nat.mod_eq_of_lt hb62, e3, wrap64 (by omega) (by omega)]
theorem shl64 {a k : Nat} (hk : k ≤ 64) (h : a * 2 ^ k < 2 ^ 62) : shiftL .i64 (a : Int) (k : Int) = ((a * 2 ^ k : Nat) : Int) := by
  unfold shiftL
  have : min (k : Int).toNat IntKind.i64.bits = k := by rw [Int.toNat_natCast]; exact Nat.min_eq_left hk
  rw [this]
  have e : (a : Int) * 2 ^ k = ((a * 2 ^ k : Nat) : Int) := by simp
  rw [e, wrap64 (by omega) (by omega)]
theorem word_or (a b : UInt8) : bitOr .i64 (shiftL .i64 (a.toNat : Int) 8) (b.toNat : Int) = 256 * (a.toNat : Int) + b.toNat := by
  have ha := a.toNat_lt
  have hb := b.toNat_lt
  have h1 := shl64 (a := a.toNat) (k := 8) (by omega) (by omega)
  have h2 := or64 (a := a.toNat) (b := b.toNat) (k := 8) (by omega) (by omega)
  rw [show (8 : Int) = ((8 : Nat) : Int) from rfl, h1, h2]
  omega
theorem long_or (a b c d : UInt8) : bitOr .i64 (bitOr .i64 (bitOr .i64 (shiftL .i64 (a.toNat : Int) 24) (shiftL .i64 (b.toNat : Int) 16)) (shiftL .i64 (c.toNat : Int) 8)) (d.toNat : Int) = 65536 * (256 * (a.toNat : Int) + b.toNat) + (256 * (c.toNat : Int) + d.toNat) := by
  have ha := a.toNat_lt
  have hb := b.toNat_lt
  have hc := c.toNat_lt
  have hd := d.toNat_lt
  have h1 := shl64 (a := a.toNat) (k := 24) (by omega) (by omega)
  have h2 := shl64 (a := b.toNat) (k := 16) (by omega) (by omega)
  have h3 := shl64 (a := c.toNat) (k := 8) (by omega) (by omega)
  have o1 := or64 (a := a.toNat) (b := b.toNat * 2 ^ 16) (k := 24) (by omega) (by omega)
  have e1 : a.toNat * 2 ^ 24 + b.toNat * 2 ^ 16 = (a.toNat * 2 ^ 8 + b.toNat) * 2 ^ 16 := by omega
  rw [e1] at o1
  obtain ⟨x, hx⟩ : ∃ x, x = a.toNat * 2 ^ 8 + b.toNat := ⟨_, rfl⟩
  rw [← hx] at o1
  have hx1 : x < 65536 := by omega
  have o2 := or64 (a := x) (b := c.toNat * 2 ^ 8) (k := 16) (by omega) (by omega)
  have e2 : x * 2 ^ 16 + c.toNat * 2 ^ 8 = (x * 2 ^ 8 + c.toNat) * 2 ^ 8 := by clear o1 o2 h1 h2 h3 e1; omega
  rw [e2] at o2
  obtain ⟨y, hy⟩ : ∃ y, y = x * 2 ^ 8 + c.toNat := ⟨_, rfl⟩
  rw [← hy] at o2
  have hy1 : y < 16777216 := by clear o1 o2 e2 h1 h2 h3 e1; omega
  have o3 := or64 (a := y) (b := d.toNat) (k := 8) (by clear o1 o2 e2 h1 h2 h3 e1; omega) (by clear o1 o2 e2 h1 h2 h3 e1; omega)
  rw [show (24 : Int) = ((24 : Nat) : Int) from rfl, show (16 : Int) = ((16 : Nat) : Int) from rfl, show (8 : Int) = ((8 : Nat) : Int) from rfl, h1, h2, h3, o1, o2, o3]
  omega
theorem wrap_byte (a : UInt8) : IntKind.i64.wrap (a.toNat : Int) = a.toNat := by have := a.toNat_lt; exact wrap64 (by omega) (by omega)
theorem s_WordGet (s : List UInt8) (i : Int) (h : 0 ≤ i ∧ i + 2 ≤ s.length) (hs : s.length ≤ 1000000000) : Spec Try.prog 157 0 [] [.st s, .i i] (fun r _ _ _ => r = .tup [.i (at2 s i.toNat), .bo true]) := by
  refine mk157 rfl fun c hP hm => ?_
  unfold pc157
  have w1 : IntKind.i64.wrap ((s.length : Int) - 2) = (s.length : Int) - 2 := wrap64 (by omega) (by omega)
  have w2 : IntKind.i64.wrap (i + 1) = i + 1 := wrap64 (by omega) (by omega)
  have e : (i + 1).toNat = i.toNat + 1 := by omega
  simp only [hm, go_sem, ↓reduceIte]
  simp only [w1, w2, e, wrap_byte, word_or]
  repeat' first | refine And.intro ?_ ?_ | intro _
  all_goals first
    | omega
    | rfl
theorem s_LongGet (s : List UInt8) (i : Int) (h : 0 ≤ i ∧ i + 4 ≤ s.length) (hs : s.length ≤ 1000000000) : Spec Try.prog 156 0 [] [.st s, .i i] (fun r _ _ _ => r = .tup [.i (at4 s i.toNat), .bo true]) := by
  refine mk156 rfl fun c hP hm => ?_
  unfold pc156
  have w1 : IntKind.i64.wrap ((s.length : Int) - 4) = (s.length : Int) - 4 := wrap64 (by omega) (by omega)
  have w2 : IntKind.i64.wrap (i + 1) = i + 1 := wrap64 (by omega) (by omega)
  have w3 : IntKind.i64.wrap (i + 2) = i + 2 := wrap64 (by omega) (by omega)
  have w4 : IntKind.i64.wrap (i + 3) = i + 3 := wrap64 (by omega) (by omega)
  have e : (i + 1).toNat = i.toNat + 1 := by omega
  have e2 : (i + 2).toNat = i.toNat + 2 := by omega
  have e3 : (i + 3).toNat = i.toNat + 3 := by omega
  simp only [hm, go_sem, ↓reduceIte]
  simp only [w1, w2, w3, w4, e, e2, e3, wrap_byte, long_or]
  repeat' first | refine And.intro ?_ ?_ | intro _
  all_goals first
    | omega
    | rfl
theorem and_flags {f : Int} (h : 0 ≤ f ∧ f ≤ 7) : (bitAnd .i64 f 2 != 0) = decide (f / 2 % 2 = 1) ∧ (bitAnd .i64 f 1 != 0) = decide (f % 2 = 1) ∧ (bitAnd .i64 f 4 != 0) = decide (f / 4 = 1) := by
  have : f = 0 ∨ f = 1 ∨ f = 2 ∨ f = 3 ∨ f = 4 ∨ f = 5 ∨ f = 6 ∨ f = 7 := by omega
  rcases this with rfl | rfl | rfl | rfl | rfl | rfl | rfl | rfl <;> decide
theorem dataOf_and {k : Chunk} (hf : inB k.flags 0 7 = true) : dataOf k = ⟨at2 k.body 0, at2 k.body 2, at2 k.body 4, bitAnd .i64 k.flags 2 != 0, bitAnd .i64 k.flags 1 != 0, bitAnd .i64 k.flags 4 != 0, List.drop 6 (List.take ((k.body.length : Int)).toNat k.body)⟩ := by
  obtain ⟨h1, h2, h3⟩ := and_flags (inB_iff.1 hf)
  rw [h1, h2, h3, Int.toNat_natCast, List.take_length]
  rfl
theorem s_implDataGet (k : Chunk) (hs : k.body.length ≤ 1000000000) : Spec Try.prog 172 0 [] [k.av] (fun r _ _ _ => r = .tup [((dataGet k).getD noData).av, .bo (dataGet k).isSome]) := by
  refine mk172 rfl fun c hP hm => ?_
  unfold pc172 Chunk.av
  simp only [hm, go_sem, ↓reduceIte]
  repeat' first
    | refine And.intro ?_ ?_
    | intro _
    | (refine call_pure (hP ▸ s_WordGet _ _ (by omega) hs) rfl rfl ?_; simp only [hm, go_sem, ↓reduceIte])
    | (refine call_pure (hP ▸ s_dataOk (⟨at2 k.body 0, at2 k.body 2, at2 k.body 4, bitAnd .i64 k.flags 2 != 0, bitAnd .i64 k.flags 1 != 0, bitAnd .i64 k.flags 4 != 0, List.drop 6 (List.take ((k.body.length : Int)).toNat k.body)⟩) (by simp; omega)) rfl rfl ?_; simp only [hm, go_sem, ↓reduceIte])
  all_goals first
    | omega
    | (rw [dataGet_none (k := k) fun h1 h2 h3 h4 => by have := inB_iff.1 h2; omega]; rfl)
    | (rename_i hB
       have hf : inB k.flags 0 7 = true := inB_iff.2 (by omega)
       rw [dataGet_some (k := k) (by omega) hf (by omega) (by rw [dataOf_and hf]; exact hB), dataOf_and hf]; rfl)
    | (rename_i hB
       have hf : inB k.flags 0 7 = true := inB_iff.2 (by omega)
       rw [dataGet_none (k := k) fun h1 h2 h3 h4 => by rw [dataOf_and hf, hB] at h4; cases h4]; rfl)
theorem s_implInitGet (k : Chunk) (hs : k.body.length ≤ 1000000000) : Spec Try.prog 107 0 [] [k.av] (fun r _ _ _ => r = .tup [((initGet k).getD noInit).av, .bo (initGet k).isSome]) := by
  refine mk107 rfl fun c hP hm => ?_
  unfold pc107 Chunk.av
  simp only [hm, go_sem, ↓reduceIte]
  repeat' first
    | refine And.intro ?_ ?_
    | intro _
    | (refine call_pure (hP ▸ s_WordGet _ _ (by omega) hs) rfl rfl ?_; simp only [hm, go_sem, ↓reduceIte])
    | (refine call_pure (hP ▸ s_LongGet _ _ (by omega) hs) rfl rfl ?_; simp only [hm, go_sem, ↓reduceIte])
    | (refine call_pure (hP ▸ s_initOk (initOf k)) rfl rfl ?_; simp only [hm, go_sem, ↓reduceIte])
  all_goals first
    | omega
    | (rename_i hB; rw [initGet_some (k := k) (by omega) (by omega) (by omega) (by exact hB)]; rfl)
    | (rename_i hB; rw [initGet_none (k := k) fun h1 h2 h3 h4 => by rw [hB] at h4; cases h4]; rfl)
    | (rw [initGet_none (k := k) fun h1 h2 h3 h4 => by first | omega | (simp_all; done)]; rfl)
end Go.Cap

/- Contracts: steps of an association, chunk by chunk (the reference's): sides, ends, cookies, inits. -/
namespace Go.Cap
open Go Go.Proofs
set_option maxRecDepth 100000
set_option linter.unusedSimpArgs false
set_option linter.unusedVariables false
attribute [local irreducible] Call Run Spec Le

theorem s_l31Side (a : Assoc) (byB : Bool) : Spec Try.prog 165 0 [] [a.ro, .bo byB] (fun r _ _ _ => r = .tup [(a.own byB).ro, (a.other byB).ro]) := by
  refine mk165 rfl fun c hP hm => ?_
  unfold pc165 Assoc.ro Assoc.av
  cases byB <;> simp only [hm, go_sem, ↓reduceIte] <;> rfl
theorem s_l31With (a : Assoc) (byB : Bool) (s : Side) : Spec Try.prog 179 0 [] [a.ro, .bo byB, s.ro] (fun r _ _ _ => r = (a.put byB s).ro) := by
  refine mk179 rfl fun c hP hm => ?_
  unfold pc179 Assoc.ro Assoc.av Side.ro Side.av
  cases byB <;> simp only [hm, go_sem, ↓reduceIte] <;> rfl
def resA (x : Assoc × Int) : AV := .tup [x.1.ro, .i x.2]
theorem resA_eq {fr to st : Int} {bb : Bool} {A B : Side} {n : Int} {x : Assoc × Int} (h : ((⟨fr, to, st, bb, A, B⟩ : Assoc), n) = x) :
    AV.tup [.agg [.i fr, .i to, .i st, .bo bb, .i A.tag, .i A.streams, .i A.first, .r (.ro none (A.sent.map Data.row)), .i A.acked, .i B.tag, .i B.streams, .i B.first, .r (.ro none (B.sent.map Data.row)), .i B.acked], .i n] = resA x := by subst h; rfl
theorem inB_dec (a b c : Int) : inB a b c = decide (b ≤ a ∧ a ≤ c) := rfl
set_option maxHeartbeats 2000000 in
theorem s_l31End (a : Assoc) (byB : Bool) (k : Int) (hk : k = 6 ∨ k = 7 ∨ k = 8 ∨ k = 14) : Spec Try.prog 169 0 [] [a.ro, .bo byB, .i k] (fun r _ _ _ => r = resA (stepEnd a byB k)) := by
  refine mk169 rfl fun c hP hm => ?_
  unfold pc169
  have hS := s_l31Side a byB
  obtain ⟨fr, to, st, bb, A, B⟩ := a
  unfold Assoc.ro Assoc.av at hS ⊢
  simp only [hm, go_sem, ↓reduceIte]
  refine call_data (hP ▸ hS) (by cases byB <;> rfl) rfl ?_
  unfold stepEnd
  have hown : ∃ o o' : Side, (Assoc.mk fr to st bb A B).own byB = o ∧ (Assoc.mk fr to st bb A B).other byB = o' := ⟨_, _, rfl, rfl⟩
  obtain ⟨o, o', h1, h2⟩ := hown
  rw [h1, h2]
  clear hS h1 h2
  have hdone : ((o.acked == (o.sent.length : Int)) : Bool) = decide (o.acked = o.sent.length) := beq_dec _ _
  generalize decide (o.acked = o.sent.length) = done at *
  simp only [List.length_map, hdone, Side.ro, Side.av, hm, go_sem, ↓reduceIte]
  intro _
  rcases hk with rfl | rfl | rfl | rfl <;> cases byB <;> cases bb <;> cases done
  all_goals
    simp only [inB_dec, hm, go_sem, ↓reduceIte]
    repeat' first
      | refine And.intro ?_ ?_
      | intro _
      | (refine c_l6In hP ?_; simp only [inB_dec, hm, go_sem, ↓reduceIte])
  all_goals first
    | omega
    | (refine resA_eq ?_
       try simp only [inB_dec, Int.reduceEq, if_true, if_false, Bool.and_true, Bool.and_false, Bool.not_true, Bool.not_false, beq_self_eq_true, bne_self_eq_false, Bool.and_eq_true, decide_eq_true_eq, Bool.false_eq_true, reduceCtorEq]
       repeat' split
       all_goals first
         | rfl
         | (exfalso; omega)
         | (exfalso; simp_all; done)
         | (exfalso; simp_all; omega))
theorem s_l31Cookie (a : Assoc) (byB : Bool) (k : Int) : Spec Try.prog 170 0 [] [a.ro, .bo byB, .i k] (fun r _ _ _ => r = resA (stepRest a byB k)) := by
  refine mk170 rfl fun c hP hm => ?_
  obtain ⟨fr, to, st, bb, A, B⟩ := a
  unfold pc170 Assoc.ro Assoc.av stepRest
  cases byB
  all_goals
    simp only [inB_dec, hm, go_sem, ↓reduceIte]
    repeat' first
      | refine And.intro ?_ ?_
      | intro _
      | (refine c_l6In hP ?_; simp only [inB_dec, hm, go_sem, ↓reduceIte])
  all_goals first
    | omega
    | (refine resA_eq ?_
       try simp only [inB_dec, Int.max_def, Bool.true_and, Bool.false_and, Bool.not_true, Bool.not_false, Bool.and_eq_true, decide_eq_true_eq, Bool.false_eq_true, reduceCtorEq, if_true, if_false]
       repeat' split
       all_goals first
         | rfl
         | (exfalso; omega)
         | (exfalso; simp_all; done)
         | (exfalso; simp_all; omega)
         | (simp only [Prod.mk.injEq, Assoc.mk.injEq, true_and, and_true]; omega))
end Go.Cap

/- Contracts: steps of an association (the reference's): inits. -/
namespace Go.Cap
open Go Go.Proofs
set_option maxRecDepth 100000
set_option linter.unusedSimpArgs false
set_option linter.unusedVariables false
attribute [local irreducible] Call Run Spec Le

theorem resA_eq' {fr to st : Int} {bb : Bool} {t1 s1 f1 c1 t2 s2 f2 c2 : Int} {l1 l2 : List Data} {L1 L2 : List (List RV)} {n : Int} {x : Assoc × Int} (h1 : L1 = l1.map Data.row) (h2 : L2 = l2.map Data.row) (h : ((⟨fr, to, st, bb, ⟨t1, s1, f1, l1, c1⟩, ⟨t2, s2, f2, l2, c2⟩⟩ : Assoc), n) = x) :
    AV.tup [.agg [.i fr, .i to, .i st, .bo bb, .i t1, .i s1, .i f1, .r (.ro none L1), .i c1, .i t2, .i s2, .i f2, .r (.ro none L2), .i c2], .i n] = resA x := by subst h; subst h1; subst h2; rfl
set_option maxHeartbeats 2000000 in
theorem s_l31Init (a : Assoc) (byB : Bool) (k : Chunk) (hs : k.body.length ≤ 1000000000) : Spec Try.prog 166 0 [] [a.ro, .bo byB, k.av] (fun r _ _ _ => r = resA (stepInit a byB k)) := by
  have hS := s_l31Side a byB
  have hG := s_specInitGet k hs
  obtain ⟨fr, to, st, bb, A, B⟩ := a
  have hWt := fun x : Init => s_l31With ⟨fr, to, st + 1, bb, A, B⟩ byB ⟨x.tag, x.streams, x.tsn, [], 0⟩
  refine mk166 rfl fun c hP hm => ?_
  unfold pc166
  unfold stepInit
  unfold Assoc.ro Assoc.av at hS ⊢
  unfold Chunk.av at hG ⊢
  simp only [hm, go_sem, ↓reduceIte]
  refine call_data (hP ▸ hG) rfl rfl ?_
  have hw1 : st = 0 ∨ st = 1 → IntKind.i64.wrap (st + 1) = st + 1 := fun h => by rw [wrap64 (by omega) (by omega)]
  obtain ⟨kk, kf, kb⟩ := k
  generalize initGet ⟨kk, kf, kb⟩ = g
  cases g with
  | none =>
    cases byB
    all_goals
      simp only [Option.getD_none, Option.isSome_none, noInit, Init.av, inB_dec, hm, go_sem, ↓reduceIte]
      repeat' first
        | refine And.intro ?_ ?_
        | intro _
        | (refine c_l6In hP ?_; simp only [inB_dec, hm, go_sem, ↓reduceIte])
        | (refine call_data (hP ▸ hS) rfl rfl ?_; simp only [Assoc.own, Assoc.other, Side.ro, Side.av, Bool.false_eq_true, if_false, if_true, inB_dec, hm, go_sem, ↓reduceIte])
    all_goals first
      | omega
      | (refine resA_eq ?_
         try simp only [inB_dec, Bool.and_eq_true, Bool.or_eq_true, decide_eq_true_eq, Bool.not_eq_true', Bool.or_eq_false_iff, Bool.and_eq_false_iff, decide_eq_false_iff_not, Bool.and_true, Bool.and_false, Bool.or_false, Bool.false_or, Bool.not_true, Bool.not_false, Bool.true_and, Bool.false_and]
         repeat' split
         all_goals first
           | rfl
           | (exfalso; omega)
           | (exfalso; simp_all; done)
           | (exfalso; simp_all; omega))
  | some x =>
    cases byB
    all_goals
      simp only [Option.getD_some, Option.isSome_some, Init.av, inB_dec, hm, go_sem, ↓reduceIte]
      repeat' first
        | refine And.intro ?_ ?_
        | intro _
        | (refine c_l6In hP ?_; simp only [inB_dec, hm, go_sem, ↓reduceIte])
        | (refine call_data (hP ▸ hS) rfl rfl ?_; simp only [Assoc.own, Assoc.other, Side.ro, Side.av, Bool.false_eq_true, if_false, if_true, inB_dec, hm, go_sem, ↓reduceIte])
        | (refine call_frz 6 rfl rfl (by simp only [go_sem, ↓reduceIte]) ?_; rw [hw1 (by omega)]; simp only [List.drop_nil, List.take_nil, List.take_zero, hm, go_sem, ↓reduceIte]; refine call_data (hP ▸ hWt x) rfl rfl ?_; simp only [Assoc.put, Assoc.ro, Assoc.av, Bool.false_eq_true, if_false, if_true, inB_dec, hm, go_sem, ↓reduceIte])
    all_goals first
      | omega
      | (refine resA_eq ?_
         try simp only [Assoc.own, inB_dec, Bool.and_eq_true, Bool.or_eq_true, decide_eq_true_eq, Bool.not_eq_true', Bool.or_eq_false_iff, Bool.and_eq_false_iff, decide_eq_false_iff_not, Bool.and_true, Bool.and_false, Bool.or_false, Bool.false_or, Bool.not_true, Bool.not_false, Bool.true_and, Bool.false_and]
         repeat' split
         all_goals first
           | rfl
           | (exfalso; omega)
           | (exfalso; simp_all; done)
           | (exfalso; simp_all; omega))
      | (first | refine resA_eq' (l1 := []) rfl rfl ?_ | refine resA_eq' (l2 := []) rfl rfl ?_
         try simp only [Assoc.own, Assoc.put, inB_dec, Bool.and_eq_true, Bool.or_eq_true, decide_eq_true_eq, Bool.not_eq_true', Bool.or_eq_false_iff, Bool.and_eq_false_iff, decide_eq_false_iff_not, Bool.and_true, Bool.and_false, Bool.or_false, Bool.false_or, Bool.not_true, Bool.not_false, Bool.true_and, Bool.false_and]
         repeat' split
         all_goals first
           | rfl
           | (exfalso; omega)
           | (exfalso; simp_all; done)
           | (exfalso; simp_all; omega))
end Go.Cap

/- Contracts: steps of an association (the reference's): parts and receipts. -/
namespace Go.Cap
open Go Go.Proofs
set_option maxRecDepth 100000
set_option linter.unusedSimpArgs false
set_option linter.unusedVariables false
attribute [local irreducible] Call Run Spec Le

/-- What holds of a side that is watched. -/
def SW (s : Side) : Prop := (0 ≤ s.first ∧ s.first < 65536) ∧ s.sent.length ≤ 12 ∧ ∀ d ∈ s.sent, dataB d = true
def AW (a : Assoc) : Prop := SW a.a ∧ SW a.b
theorem AW.own {a : Assoc} (h : AW a) (b : Bool) : SW (a.own b) := by cases b; exact h.1; exact h.2
theorem AW.other {a : Assoc} (h : AW a) (b : Bool) : SW (a.other b) := by cases b; exact h.2; exact h.1
theorem AW.put {a : Assoc} (h : AW a) (b : Bool) {s : Side} (hs : SW s) : AW (a.put b s) := by cases b; exact ⟨hs, h.2⟩; exact ⟨h.1, hs⟩
theorem dataB_tsn {d : Data} (h : dataB d = true) : 0 ≤ d.tsn ∧ d.tsn < 65536 := by
  simp only [dataB, Bool.and_eq_true, serialB, decide_eq_true_eq] at h; omega
theorem dataGet_ok {k : Chunk} {d : Data} (h : dataGet k = some d) : dataB d = true := by
  unfold dataGet at h
  split at h
  · rename_i hc
    simp only [Bool.and_eq_true] at hc
    cases h; exact hc.2
  · cases h
theorem initGet_ok {k : Chunk} {d : Init} (h : initGet k = some d) : initB d = true := by
  unfold initGet at h
  split at h
  · rename_i hc
    simp only [Bool.and_eq_true] at hc
    cases h; exact hc.2
  · cases h
theorem sackGet_ok {k : Chunk} {d : Sack} (h : sackGet k = some d) : sackB d = true := by
  unfold sackGet at h
  split at h
  · rename_i hc
    simp only [Bool.and_eq_true] at hc
    cases h; exact hc.2
  · cases h
theorem resA_a {a : Assoc} {n : Int} {x : Assoc × Int} (h : (a, n) = x) :
    AV.tup [.agg [.i a.fr, .i a.to, .i a.state, .bo a.byB, .i a.a.tag, .i a.a.streams, .i a.a.first, .r (.ro none (a.a.sent.map Data.row)), .i a.a.acked, .i a.b.tag, .i a.b.streams, .i a.b.first, .r (.ro none (a.b.sent.map Data.row)), .i a.b.acked], .i n] = resA x := by subst h; rfl
theorem s_l31Data0 (a : Assoc) (byB : Bool) (k : Chunk) (hs : k.body.length ≤ 1000000000) (hw : AW a) (hg : dataGet k = none) : Spec Try.prog 167 0 [] [a.ro, .bo byB, k.av] (fun r _ _ _ => r = resA (stepData a byB k)) := by
  have hS := s_l31Side a byB
  have hG := s_specDataGet k hs
  obtain ⟨⟨f0, f1⟩, hl, hd⟩ := hw.own byB
  unfold stepData
  obtain ⟨fr, to, st, bb, A, B⟩ := a
  refine mk167 rfl fun c hP hm => ?_
  unfold pc167
  unfold Assoc.ro Assoc.av at hS ⊢
  unfold Chunk.av at hG ⊢
  simp only [hm, go_sem, ↓reduceIte]
  refine call_data (hP ▸ hG) rfl rfl ?_
  rw [hg]
  simp only [Option.getD_none, Option.isSome_none, noData, Data.av, hm, go_sem, ↓reduceIte]
  refine call_data (hP ▸ hS) (by cases byB <;> rfl) rfl ?_
  generalize (Assoc.mk fr to st bb A B).own byB = o at f0 f1 hl hd
  generalize (Assoc.mk fr to st bb A B).other byB = o'
  clear hS hG hw
  cases byB <;> cases bb
  all_goals
    simp only [Side.ro, Side.av, hm, go_sem, ↓reduceIte]
    repeat' first
      | refine And.intro ?_ ?_
      | intro _
  all_goals first
    | omega
    | (refine resA_a (a := ⟨fr, to, st, _, A, B⟩) ?_
       try simp only [Bool.and_eq_true, Bool.or_eq_true, decide_eq_true_eq, Bool.not_eq_true', Bool.or_eq_false_iff, Bool.and_eq_false_iff, decide_eq_false_iff_not, Bool.and_true, Bool.and_false, Bool.or_false, Bool.false_or, Bool.not_true, Bool.not_false, Bool.true_and, Bool.false_and, bne_self_eq_false, Bool.false_bne, Bool.true_bne]
       repeat' split
       all_goals first
         | rfl
         | (exfalso; omega)
         | (exfalso; simp_all; done)
         | (exfalso; simp_all; omega))
end Go.Cap
