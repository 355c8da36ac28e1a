import Derived.Test.YtghpfcefecedcaaEngC
import Derived.Test.YtghpfcefecedcaaPc
/- Contracts of the functions that TalkValid reaches. -/
namespace Go.Cap
open Go Go.Proofs
set_option maxRecDepth 100000
set_option linter.unusedSimpArgs false
set_option linter.unusedVariables false
attribute [local irreducible] Call Run Spec Le

def serialB (x : Int) : Bool := decide (0 ≤ x ∧ x < 65536)
theorem bo_inj {a b : Bool} (h : a = b) : AV.r (.b a) = AV.bo b := by rw [h]
def inB (n lo hi : Int) : Bool := decide (lo ≤ n ∧ n ≤ hi)
structure Say where
  byB : Bool
  stream : Int
  loose : Bool
  text : List UInt8
def Say.row (s : Say) : List RV := [.b s.byB, .n .i64 s.stream, .b s.loose, .s s.text]
def Say.av (s : Say) : AV := .agg [.bo s.byB, .i s.stream, .bo s.loose, .st s.text]
structure Init where
  tag : Int
  window : Int
  streams : Int
  tsn : Int
def Init.av (x : Init) : AV := .agg [.i x.tag, .i x.window, .i x.streams, .i x.tsn]
structure Talk where
  fr : Int
  to : Int
  a : Init
  b : Init
  size : Int
  says : List Say
def Talk.av (t : Talk) (x : AV) : AV := .agg [.i t.fr, .i t.to, .i t.a.tag, .i t.a.window, .i t.a.streams, .i t.a.tsn, .i t.b.tag, .i t.b.window, .i t.b.streams, .i t.b.tsn, .i t.size, x]
abbrev Talk.ro (t : Talk) : AV := t.av (.r (.ro none (t.says.map Say.row)))

theorem s_serialOk (x : Int) : Spec Try.prog 158 0 [] [.i x] (fun r _ _ _ => r = .bo (serialB x)) := by
  refine mk158 rfl fun c hP hm => ?_
  unfold pc158
  simp only [go_sem, ↓reduceIte]
  repeat' first | refine And.intro ?_ ?_ | intro _
  all_goals (simp [serialB]; try omega)
theorem c_serialOk {c : Cx} (hP : c.P = Try.prog) {x : Int} {s : St} {K : AV → St → Prop} (h : K (.bo (serialB x)) s) : Call c 158 [.i x] s K :=
  call_pure (hP ▸ s_serialOk x) rfl rfl h
theorem s_l6In (x lo hi : Int) : Spec Try.prog 125 0 [] [.i x, .i lo, .i hi] (fun r _ _ _ => r = .bo (inB x lo hi)) := by
  refine mk125 rfl fun c hP hm => ?_
  unfold pc125
  simp only [go_sem, ↓reduceIte]
  repeat' first | refine And.intro ?_ ?_ | intro _
  all_goals (simp [inB]; try omega)
theorem c_l6In {c : Cx} (hP : c.P = Try.prog) {x lo hi : Int} {s : St} {K : AV → St → Prop} (h : K (.bo (inB x lo hi)) s) : Call c 125 [.i x, .i lo, .i hi] s K :=
  call_pure (hP ▸ s_l6In x lo hi) rfl rfl h
theorem s_l3Ok (x : Int) : Spec Try.prog 73 0 [] [.i x] (fun r _ _ _ => r = .bo (serialB x)) := by
  refine mk73 rfl fun c hP hm => ?_
  unfold pc73
  simp only [go_sem, ↓reduceIte]
  refine c_l6In hP ?_
  simp only [go_sem, ↓reduceIte]
  rw [show serialB x = inB x 0 65535 by simp only [serialB, inB, decide_eq_decide]; omega]
theorem c_l3Ok {c : Cx} (hP : c.P = Try.prog) {x : Int} {s : St} {K : AV → St → Prop} (h : K (.bo (serialB x)) s) : Call c 73 [.i x] s K :=
  call_pure (hP ▸ s_l3Ok x) rfl rfl h
end Go.Cap

/- Contracts: sizes and copies of a talk. -/
namespace Go.Cap
open Go Go.Proofs
set_option maxRecDepth 100000
set_option linter.unusedSimpArgs false
set_option linter.unusedVariables false
attribute [local irreducible] Call Run Spec Le

/-- What is left of a bound. -/
def szText (n left : Int) : Int := if left - n < 0 then -1 else left - n
def szTexts : List Int → Int → Int
  | [], left => left
  | n :: l, left => if szText n left < 0 then -1 else szTexts l (szText n left)
theorem szTexts_drop {l : List Int} {i : Nat} (h : i < l.length) (left : Int) : szTexts (l.drop i) left = if szText l[i] left < 0 then -1 else szTexts (l.drop (i + 1)) (szText l[i] left) := by
  rw [List.drop_eq_getElem_cons h]; rfl
theorem szText_le (n left : Int) (hn : 0 ≤ n) : szText n left ≤ left ∨ szText n left = -1 := by
  unfold szText; split
  · exact .inr rfl
  · exact .inl (by omega)

theorem szTexts_spec : ∀ (l : List Int) (left : Int), (∀ n ∈ l, 0 ≤ n) → 0 ≤ szTexts l left → left - szTexts l left = l.sum
  | [], left, _, _ => by simp [szTexts]
  | n :: l, left, hn, h => by
    simp only [szTexts] at h ⊢
    split at h
    · omega
    · rename_i h1
      rw [if_neg h1]
      have := szTexts_spec l (szText n left) (fun n hm => hn n (List.mem_cons_of_mem _ hm)) h
      have h2 : szText n left = left - n := by
        unfold szText at h1 ⊢; split
        · rename_i h3; rw [if_pos h3] at h1; omega
        · rfl
      rw [h2] at this ⊢
      simp only [List.sum_cons]; omega
theorem sum_mem : ∀ (l : List Int), (∀ n ∈ l, 0 ≤ n) → ∀ n ∈ l, n ≤ l.sum
  | [], _, n, h => by cases h
  | x :: l, hl, n, h => by
    have h0 := hl x (by simp)
    have hp : ∀ (l : List Int), (∀ n ∈ l, 0 ≤ n) → 0 ≤ l.sum := by
      intro l
      induction l with
      | nil => intro _; simp
      | cons y l ih => intro h; have := h y (by simp); have := ih (fun n hn => h n (List.mem_cons_of_mem _ hn)); simp only [List.sum_cons]; omega
    have h1 := hp l (fun n hn => hl n (List.mem_cons_of_mem _ hn))
    rcases List.mem_cons.1 h with rfl | h
    · simp only [List.sum_cons]; omega
    · have := sum_mem l (fun n hn => hl n (List.mem_cons_of_mem _ hn)) n h
      simp only [List.sum_cons]; omega
end Go.Cap

/- The parts of a talk, in plain terms. -/
namespace Go.Cap
set_option linter.unusedVariables false
set_option linter.unusedSimpArgs false

def l3 (a n : Int) : Int := (a + n) % 65536
structure Data where
  tsn : Int
  stream : Int
  ssn : Int
  first : Bool
  last : Bool
  loose : Bool
  text : List UInt8
def Data.row (d : Data) : List RV := [.n .i64 d.tsn, .n .i64 d.stream, .n .i64 d.ssn, .b d.first, .b d.last, .b d.loose, .s d.text]
def Data.av (d : Data) : AV := .agg [.i d.tsn, .i d.stream, .i d.ssn, .bo d.first, .bo d.last, .bo d.loose, .st d.text]

/-- How many parts a text of 'n' bytes has. -/
def manyN (n sz : Nat) : Nat := (n + sz - 1) / sz
/-- Part 'j' of a message. -/
def part (sz : Nat) (tsn : Int) (ssn : Int) (s : Say) (j : Nat) : Data := ⟨l3 tsn j, s.stream, ssn, decide (j = 0), decide (s.text.length ≤ (j + 1) * sz), s.loose, (s.text.take ((j + 1) * sz)).drop (j * sz)⟩
def chunks (sz : Nat) (tsn ssn : Int) (s : Say) : List Data := (List.range (manyN s.text.length sz)).map (part sz tsn ssn s)
/-- How many ordered messages of a stream begin in parts. -/
def ssnIn (out : List Data) (stream : Int) : Nat := out.countP fun d => d.first && !d.loose && d.stream == stream
def ssnOf (out : List Data) (s : Say) : Int := if s.loose then 0 else ssnIn out s.stream
def nextParts (sz : Nat) (tsn : Int) (out : List Data) (s : Say) : List Data := chunks sz (l3 tsn out.length) (ssnOf out s) s
def Talk.tsn (t : Talk) (byB : Bool) : Int := if byB then t.b.tsn else t.a.tsn
theorem l3_l3 (a m n : Int) : l3 (l3 a m) n = l3 a (m + n) := by unfold l3; omega
theorem l3_range (a n : Int) : 0 ≤ l3 a n ∧ l3 a n < 65536 := by unfold l3; omega
theorem serial_l3 (a n : Int) : serialB (l3 a n) = true := by have := l3_range a n; simp [serialB]; omega
theorem many_lt {n sz j : Nat} (hsz : 1 ≤ sz) : j < manyN n sz ↔ j * sz < n := by
  unfold manyN
  rw [Nat.lt_div_iff_mul_lt hsz]
  constructor <;> intro h <;> omega
theorem chunks_len (sz : Nat) (tsn ssn : Int) (s : Say) : (chunks sz tsn ssn s).length = manyN s.text.length sz := by simp [chunks]
theorem chunks_get {sz : Nat} {tsn ssn : Int} {s : Say} {j : Nat} (h : j < manyN s.text.length sz) : (chunks sz tsn ssn s)[j]? = some (part sz tsn ssn s j) := by simp [chunks, h]
theorem take_chunks {sz : Nat} {tsn ssn : Int} {s : Say} {j : Nat} (h : j < manyN s.text.length sz) : (chunks sz tsn ssn s).take (j + 1) = (chunks sz tsn ssn s).take j ++ [part sz tsn ssn s j] := by
  rw [List.take_add_one, chunks_get h]; rfl
theorem ssnIn_app (a b : List Data) (x : Int) : ssnIn (a ++ b) x = ssnIn a x + ssnIn b x := by simp [ssnIn, List.countP_append]
theorem nextParts_len (sz : Nat) (tsn : Int) (out : List Data) (s : Say) : (nextParts sz tsn out s).length = manyN s.text.length sz := by simp [nextParts, chunks_len]
theorem take_get {α : Type} {l : List α} {i : Nat} (h : i < l.length) : l.take (i + 1) = l.take i ++ [l[i]] := by rw [List.take_add_one, List.getElem?_eq_getElem h]; rfl
theorem ssnIn_take {l : List Data} {i : Nat} (h : i < l.length) (x : Int) : ssnIn (l.take (i + 1)) x = ssnIn (l.take i) x + (if l[i].first = true ∧ l[i].loose = false ∧ l[i].stream = x then 1 else 0) := by
  rw [take_get h, ssnIn_app]
  congr 1
  simp only [ssnIn, List.countP_cons, List.countP_nil]
  cases l[i].first <;> cases l[i].loose <;> simp
theorem ssnIn_le (l : List Data) (x : Int) : ssnIn l x ≤ l.length := List.countP_le_length
end Go.Cap

/- Contracts: serial numbers; the reference's parts. -/
namespace Go.Cap
open Go Go.Proofs
set_option maxRecDepth 100000
set_option linter.unusedSimpArgs false
set_option linter.unusedVariables false
attribute [local irreducible] Call Run Spec Le

theorem tmod64k (n : Int) : -65536 < n.tmod 65536 ∧ n.tmod 65536 < 65536 ∧ (n.tmod 65536 - n) % 65536 = 0 := by
  rcases Int.lt_or_le n 0 with h | h
  · have e : n.tmod 65536 = -((-n).tmod 65536) := by rw [← Int.neg_tmod, Int.neg_neg]
    rw [e, Int.tmod_eq_emod_of_nonneg (by omega)]; omega
  · rw [Int.tmod_eq_emod_of_nonneg h]; omega
theorem s_SerialAdd (a n : Int) : Spec Try.prog 78 0 [] [.i a, .i n] (fun r _ _ _ => r = .i (if serialB a then l3 a n else -1)) := by
  refine mk78 rfl fun c hP hm => ?_
  unfold pc78
  simp only [go_sem, ↓reduceIte]
  refine c_serialOk hP ?_
  simp only [go_sem, ↓reduceIte]
  refine ⟨fun h => ?_, fun h => ?_⟩
  · rw [h]; rfl
  · have ha : 0 ≤ a ∧ a < 65536 := by simpa [serialB] using h
    obtain ⟨h1, h2, h3⟩ := tmod64k n
    have h4 := tmod64k (a + n.tmod 65536)
    simp (disch := omega) only [wrap64]
    rw [Int.tmod_eq_emod_of_nonneg (a := (a + n.tmod 65536).tmod 65536 + 65536) (by omega), h, if_pos rfl]
    unfold l3
    congr 2; omega
theorem s_l31Ssn (l : List Data) (x : Int) (hl : l.length ≤ 4000000) : Spec Try.prog 166 0 [] [.r (.ro none (l.map Data.row)), .i x] (fun r _ _ _ => r = .i (ssnIn l x)) := by
  refine mk166 rfl fun c hP hm => ?_
  unfold pc166
  simp only [go_sem, ↓reduceIte]
  refine lp_wpc (α := Nat) (fun i => ⟨[(0, .r (.ro none (l.map Data.row))), (1, .i x), (5, .i (ssnIn (l.take i) x)), (6, .i i)], [], 0, []⟩) (fun i => i ≤ l.length) (fun i => l.length - i) 0 (Nat.zero_le _) (le_eq (by simp [ssnIn])) ?_
  intro i hi
  unfold pc166l0
  simp only [go_sem, ↓reduceIte]
  intro _
  refine ⟨fun hlt => ?_, fun hge => ?_⟩
  · have hil : i < l.length := by omega
    have hs := ssnIn_take hil x
    have hle := ssnIn_le (l.take i) x
    simp only [List.length_take] at hle
    simp only [Int.toNat_natCast, getD_map hil, Data.row, go_sem, ↓reduceIte]
    generalize hd : l[i] = d at hs
    obtain ⟨a, b, e, f, g, h, k⟩ := d
    simp only at hs
    simp only [Data.row, go_sem, ↓reduceIte]
    refine ⟨⟨by omega, by omega⟩, ?_⟩
    have e1 : IntKind.i64.wrap ((i : Int) + 1) = ((i + 1 : Nat) : Int) := by rw [wrap64 (by omega) (by omega)]; omega
    have e2 : IntKind.i64.wrap ((ssnIn (l.take i) x : Int) + 1) = ((ssnIn (l.take i) x + 1 : Nat) : Int) := by rw [wrap64 (by omega) (by omega)]; omega
    rw [e1, e2]
    repeat' first | refine And.intro ?_ ?_ | intro _
    all_goals first
      | omega
      | (simp only [*, if_true, if_false, Bool.false_eq_true, and_self, true_and, false_and, and_false, reduceCtorEq] at hs
         exact ⟨i + 1, hil, by omega, le_eq (by rw [hs] <;> rfl)⟩)
  · have : i = l.length := by omega
    subst this
    simp

end Go.Cap

/- The parts of a talk as the program lays them: one list a message. -/
namespace Go.Cap
set_option linter.unusedVariables false
set_option linter.unusedSimpArgs false

/-- The counters of a side's streams. -/
def cnt (f : List Data) : List AV := [.i (ssnIn f 0), .i (ssnIn f 1), .i (ssnIn f 2), .i (ssnIn f 3)]
def cnts (f g : List Data) : List AV := [.i (ssnIn f 0), .i (ssnIn f 1), .i (ssnIn f 2), .i (ssnIn f 3), .i (ssnIn g 0), .i (ssnIn g 1), .i (ssnIn g 2), .i (ssnIn g 3)]
end Go.Cap

/- Contracts: the program's parts. -/
namespace Go.Cap
open Go Go.Proofs
set_option maxRecDepth 100000
set_option linter.unusedSimpArgs false
set_option linter.unusedVariables false
attribute [local irreducible] Call Run Spec Le

@[go_sem] theorem cnts_len (f g : List Data) : (cnts f g).length = 8 := (rfl)
end Go.Cap

/- Contracts: the reader of a code, and small draws. -/
namespace Go.Cap
open Go Go.Proofs
set_option maxRecDepth 100000
set_option linter.unusedSimpArgs false
set_option linter.unusedVariables false
attribute [local irreducible] Call Run Spec Le

def byteRow (b : UInt8) : List RV := [.n .u8 b.toNat]
def rdB (code : List UInt8) (p : Int) : Blk := .var [.r (.ro none (code.map byteRow)), .i p]

@[go_sem] theorem renB_rd (f : Nat → Nat) (code : List UInt8) (p : Int) : renB f (rdB code p) = rdB code p := (rfl)
@[go_sem] theorem killH_rd (b j : Nat) (code : List UInt8) (p : Int) (l : List (Nat × Blk)) : killH b ((j, rdB code p) :: l) = (j, rdB code p) :: killH b l := (rfl)

end Go.Cap

/- Contracts: the laws' helpers on parts. -/
namespace Go.Cap
open Go Go.Proofs
set_option maxRecDepth 100000
set_option linter.unusedSimpArgs false
set_option linter.unusedVariables false
attribute [local irreducible] Call Run Spec Le

theorem mid_get {α : Type} {A B : List α} {d x : α} {i : Nat} (h : A.length = i) : (A ++ x :: B).getD i d = x := by
  rw [List.getD_eq_getElem?_getD, List.getElem?_append_right (by omega), h, Nat.sub_self]; rfl
end Go.Cap

/- What a side said: the plain law, and the contracts of TalkSaid. -/
namespace Go.Cap
open Go Go.Proofs
set_option maxRecDepth 100000
set_option linter.unusedSimpArgs false
set_option linter.unusedVariables false
attribute [local irreducible] Call Run Spec Le

structure Msg where
  stream : Int
  ssn : Int
  loose : Bool
  text : List UInt8
def Msg.row (d : Msg) : List RV := [.n .i64 d.stream, .n .i64 d.ssn, .b d.loose, .s d.text]
def Msg.av (d : Msg) : AV := .agg [.i d.stream, .i d.ssn, .bo d.loose, .st d.text]
/-- The messages that parts make up, and the text that is still open. -/
def saidStep (x : List Msg × List UInt8) (d : Data) : List Msg × List UInt8 :=
  if d.last then (x.1 ++ [⟨d.stream, d.ssn, d.loose, x.2 ++ d.text⟩], []) else (x.1, x.2 ++ d.text)
def saidSt (l : List Data) : List Msg × List UInt8 := l.foldl saidStep ([], [])
def said (l : List Data) : List Msg := (saidSt l).1
end Go.Cap

/- Contracts: a valid part, and which part may follow. -/
namespace Go.Cap
open Go Go.Proofs
set_option maxRecDepth 100000
set_option linter.unusedSimpArgs false
set_option linter.unusedVariables false
attribute [local irreducible] Call Run Spec Le

def dataB (d : Data) : Bool := serialB d.tsn && serialB d.stream && serialB d.ssn && decide (1 ≤ d.text.length ∧ d.text.length ≤ 20)
def likeB (a b : Data) : Bool := a.stream == b.stream && a.ssn == b.ssn && a.loose == b.loose
theorem like_comm (a b : Data) : likeB a b = likeB b a := by
  unfold likeB
  rw [Bool.beq_comm (a := a.loose), BEq.comm (a := a.stream), BEq.comm (a := a.ssn)]
theorem s_dataOk (d : Data) (h : d.text.length ≤ 9223372036854775807) : Spec Try.prog 75 0 [] [d.av] (fun r _ _ _ => r = .bo (dataB d)) := by
  refine mk75 rfl fun c hP hm => ?_
  unfold pc75 Data.av
  simp only [go_sem, ↓reduceIte]
  repeat' first | refine And.intro ?_ ?_ | intro _ | (refine c_serialOk hP ?_; simp only [go_sem, ↓reduceIte])
  all_goals (apply bo_inj; rw [Bool.eq_iff_iff]; simp [dataB, *] <;> omega)
theorem s_l12Data (d : Data) (h : d.text.length ≤ 9223372036854775807) : Spec Try.prog 70 0 [] [d.av] (fun r _ _ _ => r = .bo (dataB d)) := by
  refine mk70 rfl fun c hP hm => ?_
  unfold pc70 Data.av
  simp only [go_sem, ↓reduceIte]
  repeat' first | refine And.intro ?_ ?_ | intro _ | (refine c_l6In hP ?_; simp only [go_sem, ↓reduceIte]) | (refine c_l3Ok hP ?_; simp only [go_sem, ↓reduceIte])
  all_goals (apply bo_inj; rw [Bool.eq_iff_iff]; simp [dataB, inB, *] <;> omega)
theorem s_likeParts (a b : Data) : Spec Try.prog 203 0 [] [a.av, b.av] (fun r _ _ _ => r = .bo (likeB a b)) := by
  refine mk203 rfl fun c hP hm => ?_
  unfold pc203 Data.av
  simp only [go_sem, ↓reduceIte]
  repeat' first | refine And.intro ?_ ?_ | intro _
  all_goals (simp [likeB, *])
theorem s_l22Same (a b : Data) : Spec Try.prog 204 0 [] [a.av, b.av] (fun r _ _ _ => r = .bo (likeB a b)) := by
  refine mk204 rfl fun c hP hm => ?_
  unfold pc204 Data.av
  simp only [go_sem, ↓reduceIte]
  repeat' first | refine And.intro ?_ ?_ | intro _
  all_goals (simp [likeB, *])
/-- Which part may follow others. -/
def mayB (l : List Data) (d : Data) : Bool := match l.getLast? with
  | some x => if x.last then d.first && (d.loose || d.ssn == ssnIn l d.stream) else !d.first && likeB d x
  | none => d.first && (d.loose || d.ssn == ssnIn l d.stream)
theorem s_l31Follows (l : List Data) (d : Data) (hl : l.length ≤ 2000000) : Spec Try.prog 209 0 [] [.r (.ro none (l.map Data.row)), d.av] (fun r _ _ _ => r = .bo (mayB l d)) := by
  refine mk209 rfl fun c hP hm => ?_
  unfold pc209 Data.av
  rcases l.eq_nil_or_concat with rfl | ⟨l0, x, rfl⟩
  · simp only [go_sem, ↓reduceIte]
    repeat' first | refine And.intro ?_ ?_ | intro _ | (refine call_pure (hP ▸ s_l31Ssn [] d.stream (by decide)) rfl rfl ?_; simp only [go_sem, ↓reduceIte])
    all_goals (try (apply bo_inj; simp [mayB, *]))
  · rw [List.concat_eq_append] at hl ⊢
    have hlen : (l0 ++ [x]).length = l0.length + 1 := by simp
    have hlast : (l0 ++ [x]).getLast? = some x := by simp
    have hg : ((l0 ++ [x]).map Data.row).getD l0.length [] = [.n .i64 x.tsn, .n .i64 x.stream, .n .i64 x.ssn, .b x.first, .b x.last, .b x.loose, .s x.text] := by
      rw [List.map_append, List.map_cons]; exact mid_get (by simp)
    generalize hL : l0 ++ [x] = l at hl hlen hlast hg
    have e1 : IntKind.i64.wrap (((l0.length + 1 : Nat) : Int) - 1) = (l0.length : Int) := by rw [wrap64 (by omega) (by omega)]; omega
    simp only [hlen, e1, hg, Int.toNat_natCast, go_sem, ↓reduceIte]
    have hlike := like_comm d x
    repeat' first | refine And.intro ?_ ?_ | intro _ | (refine call_pure (hP ▸ s_l31Ssn l d.stream (by omega)) rfl rfl ?_; simp only [go_sem, ↓reduceIte]) | (refine call_pure (hP ▸ s_l22Same x d) rfl rfl ?_; simp only [hlen, e1, hg, Int.toNat_natCast, go_sem, ↓reduceIte])
    all_goals first
      | omega
      | (apply bo_inj; simp [mayB, *])
theorem loop_mayFollow {c : Cx} (hm : c.m = 0) (l : List Data) (d : Data) (hl : l.length ≤ 2000000) {s0 : St} {n r : St → Prop} {x : Nat → St → Prop}
    (hs : Le c s0 ⟨[(3, .ptr 0 0 0), (5, .i 0), (39, .r (.ro none (l.map Data.row))), (40, .i l.length), (41, .i 0)], [(0, .var [.i d.tsn, .i d.stream, .i d.ssn, .bo d.first, .bo d.last, .bo d.loose, .st d.text])], 1, []⟩)
    (hx : x 0 ⟨[(3, .ptr 0 0 0), (5, .i (ssnIn l d.stream))], [(0, .var [.i d.tsn, .i d.stream, .i d.ssn, .bo d.first, .bo d.last, .bo d.loose, .st d.text])], 1, []⟩) :
    Run c (.lp pc200l0) s0 n x r := by
  refine run_exit 0 (fun t0 => t0 = ⟨[(3, .ptr 0 0 0), (5, .i (ssnIn l d.stream))], [(0, .var [.i d.tsn, .i d.stream, .i d.ssn, .bo d.first, .bo d.last, .bo d.loose, .st d.text])], 1, []⟩) ?_ (fun t0 h => by rw [h]; exact hx)
  refine lp_wpc (α := Nat) (fun i => ⟨[(3, .ptr 0 0 0), (5, .i (ssnIn (l.take i) d.stream)), (39, .r (.ro none (l.map Data.row))), (40, .i l.length), (41, .i i)], [(0, .var [.i d.tsn, .i d.stream, .i d.ssn, .bo d.first, .bo d.last, .bo d.loose, .st d.text])], 1, []⟩)
    (fun i => i ≤ l.length) (fun i => l.length - i) 0 (Nat.zero_le _) hs ?_
  intro i hi
  unfold pc200l0
  rcases Nat.lt_or_ge i l.length with hil | hil
  · have hst := ssnIn_take hil d.stream
    have hle := ssnIn_le (l.take i) d.stream
    have htl : (l.take i).length ≤ l.length := by rw [List.length_take]; omega
    simp only [Int.toNat_natCast, getD_map hil, Data.row, hm, go_sem, ↓reduceIte]
    rw [wrap64 (x := (i : Int) + 1) (by omega) (by omega), wrap64 (x := (ssnIn (l.take i) d.stream : Int) + 1) (by omega) (by omega)]
    repeat' first | refine And.intro ?_ ?_ | intro _
    all_goals first
      | omega
      | (refine ⟨i + 1, hil, by omega, ?_⟩
         rw [hst]
         simp only [*, if_true, if_false, Bool.false_eq_true, and_self, true_and, false_and, and_false, reduceCtorEq, Nat.add_zero]
         exact le_ev [] (by simp only [hm, go_sem, ↓reduceIte]; first | rfl | exact ⟨rfl, rfl⟩))
  · have : i = l.length := by omega
    subst this
    simp only [go_sem, ↓reduceIte]
    exact ⟨_, rfl, le_ev [] (by simp only [hm, List.take_length, go_sem, ↓reduceIte])⟩
theorem s_mayFollow (l : List Data) (d : Data) (hl : l.length ≤ 2000000) : Spec Try.prog 200 0 [] [.r (.ro none (l.map Data.row)), d.av] (fun r _ _ _ => r = .bo (mayB l d)) := by
  refine mk200 rfl fun c hP hm => ?_
  unfold pc200 Data.av
  rcases l.eq_nil_or_concat with rfl | ⟨l0, x, rfl⟩
  · simp only [go_sem, ↓reduceIte]
    refine ⟨fun h => by apply bo_inj; simp [mayB, h], fun h => ⟨fun h2 => by apply bo_inj; simp [mayB, h, h2], fun h2 => ?_⟩⟩
    refine loop_mayFollow hm [] d (by decide) (le_ev [] (by simp only [hm, List.map_nil, go_sem, ↓reduceIte])) ?_
    simp only [go_sem, ↓reduceIte]
    apply bo_inj; simp [mayB, h, h2]
  · rw [List.concat_eq_append] at hl ⊢
    have hlen : (l0 ++ [x]).length = l0.length + 1 := by simp
    have hlast : (l0 ++ [x]).getLast? = some x := by simp
    have hg : ((l0 ++ [x]).map Data.row).getD l0.length [] = [.n .i64 x.tsn, .n .i64 x.stream, .n .i64 x.ssn, .b x.first, .b x.last, .b x.loose, .s x.text] := by
      rw [List.map_append, List.map_cons]; exact mid_get (by simp)
    generalize hL : l0 ++ [x] = l at hl hlen hlast hg
    have e1 : IntKind.i64.wrap (((l0.length + 1 : Nat) : Int) - 1) = (l0.length : Int) := by rw [wrap64 (by omega) (by omega)]; omega
    simp only [hlen, e1, hg, Int.toNat_natCast, go_sem, ↓reduceIte]
    repeat' first | refine And.intro ?_ ?_ | intro _ | (refine call_pure (hP ▸ s_likeParts d x) rfl rfl ?_; simp only [hlen, e1, hg, Int.toNat_natCast, go_sem, ↓reduceIte]) | (refine loop_mayFollow hm l d (by omega) (le_ev [] (by simp only [hm, hlen, go_sem, ↓reduceIte])) ?_; simp only [go_sem, ↓reduceIte])
    all_goals first
      | omega
      | (apply bo_inj; simp [mayB, *])
end Go.Cap

/- Contracts: a valid side, and what it said. -/
namespace Go.Cap
open Go Go.Proofs
set_option maxRecDepth 100000
set_option linter.unusedSimpArgs false
set_option linter.unusedVariables false
attribute [local irreducible] Call Run Spec Le

structure Side where
  tag : Int
  streams : Int
  first : Int
  sent : List Data
  acked : Int
def Side.av (s : Side) (x : AV) : AV := .agg [.i s.tag, .i s.streams, .i s.first, x, .i s.acked]
def Side.ro (s : Side) : AV := s.av (.r (.ro none (s.sent.map Data.row)))
def partB (add : Int → Int → Int) (s : Side) (i : Nat) (d : Data) : Bool := dataB d && d.tsn == add s.first i && decide (d.stream < s.streams) && mayB (s.sent.take i) d
def sideLoop (add : Int → Int → Int) (s : Side) : Nat → List Data → Bool
  | _, [] => true
  | i, d :: l => partB add s i d && sideLoop add s (i + 1) l
theorem sideLoop_drop {add : Int → Int → Int} {s : Side} {l : List Data} {i : Nat} (h : i < l.length) : sideLoop add s i (l.drop i) = (partB add s i l[i] && sideLoop add s (i + 1) (l.drop (i + 1))) := by
  rw [List.drop_eq_getElem_cons h]; rfl
def headB (s : Side) : Bool := decide (1 ≤ s.tag ∧ s.tag ≤ 4294967295) && decide (1 ≤ s.streams ∧ s.streams ≤ 4) && serialB s.first && decide (s.sent.length ≤ 12) && decide (0 ≤ s.acked ∧ s.acked ≤ s.sent.length)
def noneB (s : Side) : Bool := s.streams == 0 && s.first == 0 && decide (s.sent.length = 0) && s.acked == 0
def sideB (s : Side) : Bool := if s.tag = 0 then noneB s else headB s && sideLoop l3 s 0 s.sent
/-- The sum, as the reference reckons it for any first number. -/
def l3g (a n : Int) : Int := (IntKind.i64.wrap (IntKind.i64.wrap (a + n.tmod 65536) + 65536)).tmod 65536
theorem s_l3Add' (a n : Int) : Spec Try.prog 71 0 [] [.i a, .i n] (fun r _ _ _ => r = .i (l3g a n)) := by
  refine mk71 rfl fun c hP hm => ?_
  unfold pc71
  simp only [go_sem, ↓reduceIte]
  rfl
theorem l3g_eq {a n : Int} (ha : 0 ≤ a ∧ a < 65536) : l3g a n = l3 a n := by
  obtain ⟨h1, h2, h3⟩ := tmod64k n
  unfold l3g
  rw [wrap64 (x := a + n.tmod 65536) (by omega) (by omega), wrap64 (by omega) (by omega), Int.tmod_eq_emod_of_nonneg (by omega)]
  unfold l3
  omega
theorem sideLoop_congr {f g : Int → Int → Int} {s : Side} (h : ∀ n, f s.first n = g s.first n) : ∀ (i : Nat) (l : List Data), sideLoop f s i l = sideLoop g s i l
  | _, [] => rfl
  | i, d :: l => by simp only [sideLoop, partB, h, sideLoop_congr h (i + 1) l]

theorem s_SerialAdd1 (a n : Int) (h : serialB a = true) : Spec Try.prog 78 0 [] [.i a, .i n] (fun r _ _ _ => r = .i (l3 a n)) := by
  have := s_SerialAdd a n; rwa [if_pos h] at this
theorem loop_implSideValid {c : Cx} (hP : c.P = Try.prog) (hm : c.m = 0) (s : Side) (hl : s.sent.length ≤ 12) (hx : ∀ d ∈ s.sent, d.text.length ≤ 9223372036854775807) (hf : serialB s.first = true) {s0 : St} {n r : St → Prop} {x : Nat → St → Prop}
    (hs : Le c s0 ⟨[(1, .ptr 0 0 0), (71, .r (.ro none (s.sent.map Data.row))), (72, .i s.sent.length), (73, .i 0)], [(0, .var [.i s.tag, .i s.streams, .i s.first, .r (.ro none (s.sent.map Data.row)), .i s.acked])], 1, []⟩)
    (hr : sideLoop l3 s 0 s.sent = false → ∀ hp nx gs, r ⟨[(2, .r (.b false))], hp, nx, gs⟩)
    (hx0 : sideLoop l3 s 0 s.sent = true → x 0 ⟨[], [], 1, []⟩) :
    Run c (.lp pc149l0) s0 n x r := by
  refine run_exit 0 (fun t0 => t0 = ⟨[], [], 1, []⟩ ∧ sideLoop l3 s 0 s.sent = true) ?_ (fun t0 h => by rw [h.1]; exact hx0 h.2)
  refine lp_wpc (α := Nat) (fun i => ⟨[(1, .ptr 0 0 0), (71, .r (.ro none (s.sent.map Data.row))), (72, .i s.sent.length), (73, .i i)], [(0, .var [.i s.tag, .i s.streams, .i s.first, .r (.ro none (s.sent.map Data.row)), .i s.acked])], 1, []⟩)
    (fun i => i ≤ s.sent.length ∧ sideLoop l3 s i (s.sent.drop i) = sideLoop l3 s 0 s.sent) (fun i => s.sent.length - i) 0 ⟨Nat.zero_le _, rfl⟩ hs ?_
  rintro i ⟨hi, hI⟩
  unfold pc149l0
  rcases Nat.lt_or_ge i s.sent.length with hil | hil
  · rw [sideLoop_drop hil] at hI
    have hd := hx _ (List.getElem_mem hil)
    simp only [Int.toNat_natCast, getD_map hil, Data.row, hm, go_sem, ↓reduceIte]
    generalize s.sent[i] = d at hI hd
    repeat' first | refine And.intro ?_ ?_ | intro _ | (refine call_pure (hP ▸ s_dataOk d hd) rfl rfl ?_; simp only [Int.toNat_natCast, getD_map hil, hm, go_sem, ↓reduceIte]) | (refine call_pure (hP ▸ s_SerialAdd1 s.first i hf) rfl rfl ?_; simp only [Int.toNat_natCast, getD_map hil, ← List.map_take, hm, go_sem, ↓reduceIte]) | (refine call_pure (hP ▸ s_mayFollow (s.sent.take i) d (by rw [List.length_take]; omega)) rfl rfl ?_; simp only [Int.toNat_natCast, getD_map hil, hm, go_sem, ↓reduceIte])
    all_goals first
      | omega
      | (rename_i h; obtain ⟨_, _, rfl⟩ := List.mem_map.1 h; rfl)
      | (refine hr ?_ _ _ _; rw [← hI]; simp [partB, *]; done)
      | (rename_i h; have h' := Int.not_lt.2 h; refine hr ?_ _ _ _; rw [← hI]; simp [partB, h']; done)
      | (refine ⟨i + 1, ⟨hil, ?_⟩, by omega, ?_⟩
         · rw [← hI]; simp [partB, *]
         · rw [wrap64 (by omega) (by omega)]
           exact le_ev [] (by simp only [hm, go_sem, ↓reduceIte]; rfl))
  · have : i = s.sent.length := by omega
    subst this
    rw [List.drop_eq_nil_of_le (Nat.le_refl _)] at hI
    simp only [go_sem, ↓reduceIte]
    exact ⟨_, ⟨rfl, hI.symm⟩, le_ev [] (by simp only [hm, go_sem, ↓reduceIte])⟩
theorem loop_specSideValid {c : Cx} (hP : c.P = Try.prog) (hm : c.m = 0) (s : Side) (hl : s.sent.length ≤ 2000000) (hx : ∀ d ∈ s.sent, d.text.length ≤ 9223372036854775807) {s0 : St} {n r : St → Prop} {x : Nat → St → Prop}
    (hs : Le c s0 ⟨[(1, .ptr 0 0 0), (3, .i 0)], [(0, .var [.i s.tag, .i s.streams, .i s.first, .r (.ro none (s.sent.map Data.row)), .i s.acked])], 1, []⟩)
    (hr : sideLoop l3g s 0 s.sent = false → ∀ hp nx gs, r ⟨[(2, .r (.b false))], hp, nx, gs⟩)
    (hx0 : sideLoop l3g s 0 s.sent = true → x 0 ⟨[(1, .ptr 0 0 0)], [(0, .var [.i s.tag, .i s.streams, .i s.first, .r (.ro none (s.sent.map Data.row)), .i s.acked])], 1, []⟩) :
    Run c (.lp pc178l0) s0 n x r := by
  refine run_exit 0 (fun t0 => t0 = ⟨[(1, .ptr 0 0 0)], [(0, .var [.i s.tag, .i s.streams, .i s.first, .r (.ro none (s.sent.map Data.row)), .i s.acked])], 1, []⟩ ∧ sideLoop l3g s 0 s.sent = true) ?_ (fun t0 h => by rw [h.1]; exact hx0 h.2)
  refine lp_wpc (α := Nat) (fun i => ⟨[(1, .ptr 0 0 0), (3, .i i)], [(0, .var [.i s.tag, .i s.streams, .i s.first, .r (.ro none (s.sent.map Data.row)), .i s.acked])], 1, []⟩)
    (fun i => i ≤ s.sent.length ∧ sideLoop l3g s i (s.sent.drop i) = sideLoop l3g s 0 s.sent) (fun i => s.sent.length - i) 0 ⟨Nat.zero_le _, rfl⟩ hs ?_
  rintro i ⟨hi, hI⟩
  unfold pc178l0
  rcases Nat.lt_or_ge i s.sent.length with hil | hil
  · rw [sideLoop_drop hil] at hI
    have hd := hx _ (List.getElem_mem hil)
    simp only [Int.toNat_natCast, getD_map hil, Data.row, hm, go_sem, ↓reduceIte]
    generalize s.sent[i] = d at hI hd
    repeat' first | refine And.intro ?_ ?_ | intro _ | (refine call_pure (hP ▸ s_l12Data d hd) rfl rfl ?_; simp only [Int.toNat_natCast, getD_map hil, hm, go_sem, ↓reduceIte]) | (refine call_pure (hP ▸ s_l3Add' s.first i) rfl rfl ?_; simp only [Int.toNat_natCast, getD_map hil, ← List.map_take, hm, go_sem, ↓reduceIte]) | (refine call_pure (hP ▸ s_l31Follows (s.sent.take i) d (by rw [List.length_take]; omega)) rfl rfl ?_; simp only [Int.toNat_natCast, getD_map hil, hm, go_sem, ↓reduceIte])
    all_goals first
      | omega
      | (rename_i h; obtain ⟨_, _, rfl⟩ := List.mem_map.1 h; rfl)
      | (refine hr ?_ _ _ _; rw [← hI]; simp [partB, *]; done)
      | (rename_i h; have h' := Int.not_lt.2 h; refine hr ?_ _ _ _; rw [← hI]; simp [partB, h']; done)
      | (refine ⟨i + 1, ⟨hil, ?_⟩, by omega, ?_⟩
         · rw [← hI]; simp [partB, *]
         · rw [wrap64 (by omega) (by omega)]
           exact le_ev [] (by simp only [hm, go_sem, ↓reduceIte]; rfl))
  · have : i = s.sent.length := by omega
    subst this
    rw [List.drop_eq_nil_of_le (Nat.le_refl _)] at hI
    simp only [go_sem, ↓reduceIte]
    exact fun _ => ⟨_, ⟨rfl, hI.symm⟩, le_ev [] (by simp only [hm, go_sem, ↓reduceIte])⟩
theorem s_implSideValid (s : Side) (hl : s.sent.length ≤ 2000000) (hx : ∀ d ∈ s.sent, d.text.length ≤ 9223372036854775807) : Spec Try.prog 149 0 [] [s.ro] (fun r _ _ _ => r = .bo (sideB s)) := by
  refine mk149 rfl fun c hP hm => ?_
  unfold pc149 Side.ro Side.av
  simp only [go_sem, ↓reduceIte]
  repeat' first | refine And.intro ?_ ?_ | intro _ | (refine c_serialOk hP ?_; simp only [go_sem, ↓reduceIte])
  all_goals first
    | (apply bo_inj; rw [Bool.eq_iff_iff]; simp [sideB, noneB, headB, *] <;> omega)
    | (apply bo_inj; rw [Bool.eq_iff_iff]; simp only [sideB, noneB, if_pos (by assumption : s.tag = 0), Bool.and_eq_true, beq_iff_eq, decide_eq_true_eq, Bool.false_eq_true, false_iff]; omega)
    | (refine loop_implSideValid hP hm s (by omega) hx (by assumption) (le_ev [] (by simp only [hm, go_sem, ↓reduceIte])) ?_ ?_
       · intro hf hp nx gs
         simp only [go_sem, ↓reduceIte]
         apply bo_inj; simp [sideB, hf, *]
       · intro hf
         simp only [go_sem, ↓reduceIte]
         apply bo_inj; rw [Bool.eq_iff_iff]; simp [sideB, headB, *]; omega)
theorem s_specSideValid (s : Side) (hl : s.sent.length ≤ 2000000) (hx : ∀ d ∈ s.sent, d.text.length ≤ 9223372036854775807) : Spec Try.prog 178 0 [] [s.ro] (fun r _ _ _ => r = .bo (sideB s)) := by
  refine mk178 rfl fun c hP hm => ?_
  unfold pc178 Side.ro Side.av
  simp only [go_sem, ↓reduceIte]
  have key : serialB s.first = true → sideLoop l3g s 0 s.sent = sideLoop l3 s 0 s.sent := fun h => sideLoop_congr (fun n => l3g_eq (by simpa [serialB] using h)) _ _
  repeat' first | refine And.intro ?_ ?_ | intro _
  all_goals first
    | (apply bo_inj; rw [Bool.eq_iff_iff]; simp [sideB, noneB, *] <;> omega)
    | (apply bo_inj; rw [Bool.eq_iff_iff]; simp only [sideB, noneB, if_pos (by assumption : s.tag = 0), Bool.and_eq_true, beq_iff_eq, decide_eq_true_eq, Bool.false_eq_true, false_iff]; omega)
    | (refine loop_specSideValid hP hm s hl hx (le_ev [] (by simp only [hm, go_sem, ↓reduceIte])) ?_ ?_
       · intro hf hp nx gs
         simp only [go_sem, ↓reduceIte]
         apply bo_inj
         cases hser : serialB s.first
         · simp [sideB, headB, hser, *]
         · rw [key hser] at hf; simp [sideB, hf, *]
       · intro hf
         simp only [go_sem, ↓reduceIte]
         repeat' first | refine And.intro ?_ ?_ | intro _ | (refine c_l6In hP ?_; simp only [go_sem, ↓reduceIte]) | (refine c_l3Ok hP ?_; simp only [go_sem, ↓reduceIte])
         all_goals first
           | omega
           | (apply bo_inj; rw [Bool.eq_iff_iff]; simp only [inB, Bool.and_eq_true, decide_eq_true_eq, decide_eq_false_iff_not] at *; simp only [sideB, headB, if_neg (by assumption : ¬ s.tag = 0), Bool.and_eq_true, decide_eq_true_eq, Bool.false_eq_true, false_iff]; first
              | (have hk := key (by assumption); rw [hk] at hf; simp only [hf, *, and_true, true_and]; omega)
              | (simp only [*, Bool.false_eq_true, false_and, and_false, not_false_eq_true]; done)
              | omega))
end Go.Cap

/- Contracts: TalkSaid of the program and of the reference. -/
namespace Go.Cap
open Go Go.Proofs
set_option maxRecDepth 100000
set_option linter.unusedSimpArgs false
set_option linter.unusedVariables false
attribute [local irreducible] Call Run Spec Le

def cntR (f : List Data) : List RV := [.n .i64 (ssnIn f 0), .n .i64 (ssnIn f 1), .n .i64 (ssnIn f 2), .n .i64 (ssnIn f 3)]
@[go_sem] theorem cnt_len (f : List Data) : (cnt f).length = 4 := (rfl)
@[go_sem] theorem cntR_len (f : List Data) : (cntR f).length = 4 := (rfl)
end Go.Cap

/- The parts of a talk are those of a valid side. -/
namespace Go.Cap
open Go Go.Proofs
set_option maxRecDepth 100000
set_option linter.unusedSimpArgs false
set_option linter.unusedVariables false
attribute [local irreducible] Call Run Spec Le

theorem mayB_first {f : List Data} {d : Data} (hl : ∀ x, f.getLast? = some x → x.last = true) (hd : d.first = true) (hs : d.loose = true ∨ d.ssn = ssnIn f d.stream) : mayB f d = true := by
  unfold mayB
  cases h : f.getLast? with
  | none => simp [hd]; rcases hs with hs | hs <;> simp [hs]
  | some x =>
    have := hl x h
    simp only [this, if_true]
    simp [hd]; rcases hs with hs | hs <;> simp [hs]
theorem mayB_next {f : List Data} {x d : Data} (hl : f.getLast? = some x) (hx : x.last = false) (hd : d.first = false) (hk : likeB d x = true) : mayB f d = true := by
  unfold mayB
  rw [hl]
  simp [hx, hd, hk]
/-- Every part may follow the ones ahead of it. -/
structure Fit (f : Int) (streams : Int) (out : List Data) : Prop where
  ok : ∀ i (hi : i < out.length), dataB out[i] = true ∧ out[i].tsn = l3 f i ∧ out[i].stream < streams ∧ mayB (out.take i) out[i] = true
  last : ∀ x, out.getLast? = some x → x.last = true
theorem Fit.next {z : Nat} (hz : 1 ≤ z ∧ z ≤ 20) {f streams : Int} {out : List Data} (h : Fit f streams out) (ho : out.length ≤ 60000) {s : Say} (h1 : 1 ≤ s.text.length) (hs : 0 ≤ s.stream ∧ s.stream < streams) (hs4 : streams ≤ 4) : Fit f streams (out ++ nextParts z f out s) := by
  have hnl : (nextParts z f out s).length = manyN s.text.length z := nextParts_len ..
  refine ⟨fun i hi => ?_, fun x hx => ?_⟩
  · rcases Nat.lt_or_ge i out.length with hio | hio
    · rw [List.getElem_append_left hio, List.take_append_of_le_length (by omega)]
      exact h.ok i hio
    · obtain ⟨j, rfl⟩ : ∃ j, i = out.length + j := ⟨i - out.length, by omega⟩
      have hj : j < manyN s.text.length z := by rw [List.length_append, hnl] at hi; omega
      have hget : (out ++ nextParts z f out s)[out.length + j] = part z (l3 f out.length) (ssnOf out s) s j := by
        have h2 : (out ++ nextParts z f out s)[out.length + j]? = some (part z (l3 f out.length) (ssnOf out s) s j) := by
          rw [List.getElem?_append_right (by omega), Nat.add_sub_cancel_left]; exact chunks_get hj
        rw [List.getElem?_eq_getElem hi] at h2
        exact Option.some.inj h2
      have htake : (out ++ nextParts z f out s).take (out.length + j) = out ++ (nextParts z f out s).take j := by
        rw [List.take_append, List.take_of_length_le (by omega), Nat.add_sub_cancel_left]
      rw [hget, htake]
      have hlt := (many_lt hz.1).1 hj
      have hadd : (j + 1) * z = j * z + z := by rw [Nat.add_mul, Nat.one_mul]
      have hssn := ssnIn_le out s.stream
      have hrange := l3_range (l3 f out.length) j
      refine ⟨?_, ?_, hs.2, ?_⟩
      · have k1 : serialB (l3 (l3 f out.length) j) = true := serial_l3 _ _
        have k2 : serialB s.stream = true := by simp only [serialB, decide_eq_true_eq]; omega
        have k3 : serialB (ssnOf out s) = true := by unfold ssnOf; simp only [serialB, decide_eq_true_eq]; split <;> omega
        have k4 : 1 ≤ (part z (l3 f out.length) (ssnOf out s) s j).text.length ∧ (part z (l3 f out.length) (ssnOf out s) s j).text.length ≤ 20 := by
          simp only [part, List.length_drop, List.length_take]; omega
        unfold dataB
        rw [decide_eq_true k4]
        show (serialB (l3 (l3 f out.length) j) && serialB s.stream && serialB (ssnOf out s) && true) = true
        rw [k1, k2, k3]; rfl
      · simp only [part, l3_l3]; congr 1
      · cases j with
        | zero =>
          rw [List.take_zero, List.append_nil]
          refine mayB_first h.last (by simp [part]) ?_
          simp only [part, ssnOf]
          cases s.loose <;> simp
        | succ j =>
          have hj' : j < manyN s.text.length z := by omega
          refine mayB_next (x := part z (l3 f out.length) (ssnOf out s) s j) ?_ ?_ (by simp [part]) (by simp [likeB, part])
          · rw [show (nextParts z f out s).take (j + 1) = (nextParts z f out s).take j ++ [part z (l3 f out.length) (ssnOf out s) s j] from take_chunks hj', ← List.append_assoc]
            exact List.getLast?_concat
          · simp only [part, decide_eq_false_iff_not]; omega
  · have hm : 0 < manyN s.text.length z := (many_lt hz.1).2 (by omega)
    obtain ⟨m, hmm⟩ : ∃ m, manyN s.text.length z = m + 1 := ⟨manyN s.text.length z - 1, by omega⟩
    have hn : ¬ (m + 1) * z < s.text.length := fun h => by have := (many_lt hz.1).2 h; omega
    unfold nextParts chunks at hx
    rw [hmm, List.range_succ, List.map_append, ← List.append_assoc, List.map_cons, List.map_nil, List.getLast?_concat] at hx
    cases hx
    simp only [part, decide_eq_true_eq]; omega
end Go.Cap

/- Plain model: numbers as bytes, sums, chunks, packets, records. -/
namespace Go.Cap
open Go Go.Proofs
set_option linter.unusedSimpArgs false
set_option linter.unusedVariables false

def u8 (x : Int) : UInt8 := UInt8.ofNat x.toNat
def word (n : Int) : List UInt8 := [u8 (n / 256), u8 (n % 256)]
def long (n : Int) : List UInt8 := word (n / 65536) ++ word (n % 65536)
structure Chunk where
  kind : Int
  flags : Int
  body : List UInt8
  deriving Inhabited
def Chunk.row (c : Chunk) : List RV := [.n .i64 c.kind, .n .i64 c.flags, .s c.body]
def Chunk.av (c : Chunk) : AV := .agg [.i c.kind, .i c.flags, .st c.body]
structure Packet where
  fr : Int
  to : Int
  tag : Int
  chunks : List Chunk
  deriving Inhabited
def Packet.ro (p : Packet) : AV := .agg [.i p.fr, .i p.to, .i p.tag, .r (.ro none (p.chunks.map Chunk.row))]
def Packet.row (p : Packet) : List RV := [.n .i64 p.fr, .n .i64 p.to, .n .i64 p.tag, .ro none (p.chunks.map Chunk.row)]
structure Gap where
  fr : Int
  to : Int
  deriving Inhabited
def Gap.row (g : Gap) : List RV := [.n .i64 g.fr, .n .i64 g.to]
/-- All parts of a talk, in the order in which they are said, with their sides. -/
def talkAll (z : Nat) (ta tb : Int) : List Say → List Data → List Data → List (Bool × Data)
  | [], _, _ => []
  | s :: l, oa, ob => if s.byB then (nextParts z tb ob s).map (fun d => (true, d)) ++ talkAll z ta tb l oa (ob ++ nextParts z tb ob s)
    else (nextParts z ta oa s).map (fun d => (false, d)) ++ talkAll z ta tb l (oa ++ nextParts z ta oa s) ob
def Talk.all (t : Talk) : List (Bool × Data) := talkAll t.size.toNat t.a.tsn t.b.tsn t.says [] []
structure Rec where
  time : Int
  text : List UInt8
  deriving Inhabited
def Rec.row (x : Rec) : List RV := [.n .i64 x.time, .s x.text]
def Rec.av (x : Rec) : AV := .agg [.i x.time, .st x.text]
end Go.Cap

/- Plain model: associations, findings, monitors; reading packets. -/
namespace Go.Cap
open Go Go.Proofs
set_option linter.unusedSimpArgs false
set_option linter.unusedVariables false

structure Assoc where
  fr : Int
  to : Int
  state : Int
  byB : Bool
  a : Side
  b : Side
def Assoc.cellsX (a : Assoc) (x y : RV) : List RV := [.n .i64 a.fr, .n .i64 a.to, .n .i64 a.state, .b a.byB, .n .i64 a.a.tag, .n .i64 a.a.streams, .n .i64 a.a.first, x, .n .i64 a.a.acked, .n .i64 a.b.tag, .n .i64 a.b.streams, .n .i64 a.b.first, y, .n .i64 a.b.acked]
def Assoc.row (a : Assoc) : List RV := a.cellsX (.ro none (a.a.sent.map Data.row)) (.ro none (a.b.sent.map Data.row))
def Assoc.av (a : Assoc) (x y : AV) : AV := .agg [.i a.fr, .i a.to, .i a.state, .bo a.byB, .i a.a.tag, .i a.a.streams, .i a.a.first, x, .i a.a.acked, .i a.b.tag, .i a.b.streams, .i a.b.first, y, .i a.b.acked]
def Assoc.ro (a : Assoc) : AV := a.av (.r (.ro none (a.a.sent.map Data.row))) (.r (.ro none (a.b.sent.map Data.row)))
def assocB (a : Assoc) : Bool :=
  inB a.fr 1 65535 && inB a.to 1 65535 && decide (a.fr ≠ a.to) && inB a.state 0 7 && sideB a.a && sideB a.b && (decide (0 < a.a.tag) == decide (1 ≤ a.state)) &&
  (decide (a.state = 7) || (decide (0 < a.b.tag) == decide (2 ≤ a.state))) && (decide (3 ≤ a.state) || decide (a.a.sent.length + a.b.sent.length = 0)) && (!a.byB || decide (5 ≤ a.state))
theorem assocB_iff {a : Assoc} : assocB a = true ↔ (1 ≤ a.fr ∧ a.fr ≤ 65535) ∧ (1 ≤ a.to ∧ a.to ≤ 65535) ∧ a.fr ≠ a.to ∧ (0 ≤ a.state ∧ a.state ≤ 7) ∧ sideB a.a = true ∧ sideB a.b = true ∧ (0 < a.a.tag ↔ 1 ≤ a.state) ∧
    (a.state = 7 ∨ (0 < a.b.tag ↔ 2 ≤ a.state)) ∧ (3 ≤ a.state ∨ a.a.sent.length + a.b.sent.length = 0) ∧ (a.byB = false ∨ 5 ≤ a.state) := by
  simp only [assocB, inB, Bool.and_eq_true, Bool.or_eq_true, decide_eq_true_eq, beq_iff_eq, decide_eq_decide, Bool.not_eq_true']
  constructor
  · rintro ⟨⟨⟨⟨⟨⟨⟨⟨⟨h1, h2⟩, h3⟩, h4⟩, h5⟩, h6⟩, h7⟩, h8⟩, h9⟩, h10⟩
    exact ⟨h1, h2, h3, h4, h5, h6, h7, h8, h9, h10⟩
  · rintro ⟨h1, h2, h3, h4, h5, h6, h7, h8, h9, h10⟩
    exact ⟨⟨⟨⟨⟨⟨⟨⟨⟨h1, h2⟩, h3⟩, h4⟩, h5⟩, h6⟩, h7⟩, h8⟩, h9⟩, h10⟩
structure Fnd where
  rcd : Int
  code : Int
  deriving Inhabited
def Fnd.row (f : Fnd) : List RV := [.n .i64 f.rcd, .n .i64 f.code]
def Fnd.av (f : Fnd) : AV := .agg [.i f.rcd, .i f.code]
structure Mon where
  records : Int
  list : List Assoc
  found : List Fnd
def Mon.ro (m : Mon) : AV := .agg [.i m.records, .r (.ro none (m.list.map Assoc.row)), .r (.ro none (m.found.map Fnd.row))]
def fndB (n : Int) (f : Fnd) : Bool := inB f.rcd 0 (n - 1) && (inB f.code 1 11 || inB f.code 101 105)
def lessB (a b : Fnd) : Bool := decide (a.rcd < b.rcd ∨ (a.rcd = b.rcd ∧ a.code < b.code))
/-- All numbers below one. -/
def allB (n : Nat) (p : Nat → Bool) : Bool := (List.range n).all p
theorem allB_true {n : Nat} {p : Nat → Bool} (h : ∀ i, i < n → p i = true) : allB n p = true := List.all_eq_true.2 fun i hi => h i (List.mem_range.1 hi)
theorem allB_false {n : Nat} {p : Nat → Bool} {i : Nat} (hi : i < n) (h : p i = false) : allB n p = false := by
  rw [Bool.eq_false_iff]
  intro h2
  have := List.all_eq_true.1 h2 i (List.mem_range.2 hi)
  rw [h] at this; cases this
theorem allB_iff {n : Nat} {p : Nat → Bool} : allB n p = true ↔ ∀ i, i < n → p i = true := ⟨fun h i hi => List.all_eq_true.1 h i (List.mem_range.2 hi), allB_true⟩
def noSide : Side := ⟨0, 0, 0, [], 0⟩
def noAssoc : Assoc := ⟨0, 0, 0, false, noSide, noSide⟩
def assocAt (l : List Assoc) (i : Nat) : Assoc := l.getD i noAssoc
def fndAt (l : List Fnd) (i : Nat) : Fnd := l.getD i default
theorem assocAt_eq {l : List Assoc} {i : Nat} (h : i < l.length) : assocAt l i = l[i] := by simp [assocAt, List.getD_eq_getElem?_getD, h]
theorem fndAt_eq {l : List Fnd} {i : Nat} (h : i < l.length) : fndAt l i = l[i] := by simp [fndAt, List.getD_eq_getElem?_getD, h]
def foundOne (n : Int) (l : List Fnd) (i : Nat) : Bool := fndB n (fndAt l i) && (decide (i = 0) || lessB (fndAt l (i - 1)) (fndAt l i))
def foundB (n : Int) (l : List Fnd) : Bool := allB l.length (foundOne n l)
def pairB (a : Assoc) (fr to : Int) : Bool := decide ((a.fr = fr ∧ a.to = to) ∨ (a.fr = to ∧ a.to = fr))
def listOne (l : List Assoc) (i : Nat) : Bool := assocB (assocAt l i) && decide ((assocAt l i).state ≠ 0) && allB i fun k => !pairB (assocAt l k) (assocAt l i).fr (assocAt l i).to
def listB (l : List Assoc) : Bool := allB l.length (listOne l)
def monB (m : Mon) : Bool := inB m.records 0 60 && decide (m.list.length ≤ 3) && listB m.list && foundB m.records m.found
/-- The index of the first association between two ports. -/
def findIx (fr to : Int) : List Assoc → Option Nat
  | [] => none
  | a :: l => if pairB a fr to then some 0 else (findIx fr to l).map (· + 1)
def monFind (m : Mon) (fr to : Int) : Int × Bool := if monB m then (match findIx fr to m.list with | some k => (k, decide ((assocAt m.list k).fr = to)) | none => (-1, false)) else (-1, false)
end Go.Cap

/- Contracts: associations are valid, twice. -/
namespace Go.Cap
open Go Go.Proofs
set_option maxRecDepth 100000
set_option linter.unusedSimpArgs false
set_option linter.unusedVariables false
attribute [local irreducible] Call Run Spec Le

def SFit (s : Side) : Prop := s.sent.length ≤ 2000000 ∧ ∀ d ∈ s.sent, d.text.length ≤ 9223372036854775807
theorem s_implAssocValid (a : Assoc) (ha : SFit a.a) (hb : SFit a.b) : Spec Try.prog 128 0 [] [a.ro] (fun r _ _ _ => r = .bo (assocB a)) := by
  refine mk128 rfl fun c hP hm => ?_
  unfold pc128 Assoc.ro Assoc.av
  have ka := ha.1
  have kb := hb.1
  have hw : IntKind.i64.wrap ((a.a.sent.length : Int) + (a.b.sent.length : Int)) = (a.a.sent.length : Int) + a.b.sent.length := wrap64 (by omega) (by omega)
  have hif := @assocB_iff a
  simp only [hw, hm, go_sem, ↓reduceIte]
  repeat' first | refine And.intro ?_ ?_ | intro _ | (refine call_pure (hP ▸ s_implSideValid a.a ha.1 ha.2) rfl rfl ?_; simp only [hw, hm, go_sem, ↓reduceIte]; cases hsa : sideB a.a <;> simp only [hw, hm, go_sem, ↓reduceIte]) | (refine call_pure (hP ▸ s_implSideValid a.b hb.1 hb.2) rfl rfl ?_; simp only [hw, hm, go_sem, ↓reduceIte]; cases hsb : sideB a.b <;> simp only [hw, hm, go_sem, ↓reduceIte])
  all_goals first
    | omega
    | (apply bo_inj
       rw [Bool.eq_iff_iff, hif]
       clear hif ha hb hP hm hw
       first
         | (simp_all; done)
         | (simp_all; omega)
         | (simp only [decide_eq_decide, inB, decide_eq_true_eq, decide_eq_false_iff_not] at *; simp only [true_iff]; refine ⟨by omega, by omega, by omega, by omega, by assumption, by assumption, by omega, by omega, by omega, ?_⟩; first | exact .inl (by assumption) | exact .inr (by omega))
         | (simp only [decide_eq_decide, inB, decide_eq_true_eq, decide_eq_false_iff_not] at *
            constructor
            · intro h5
              refine ⟨by omega, by omega, by omega, by omega, by assumption, by assumption, by omega, by omega, by omega, .inr h5⟩
            · rintro ⟨g1, g2, g3, g4, g5, g6, g7, g8, g9, g10⟩
              rcases g10 with g | g
              · simp_all
                done
              · exact g)
         | (simp only [decide_eq_decide, inB, decide_eq_true_eq, decide_eq_false_iff_not] at *; simp only [Bool.false_eq_true, false_iff]; rintro ⟨g1, g2, g3, g4, g5, g6, g7, g8, g9, g10⟩; first | omega | (simp_all; done) | (simp_all; omega)))
theorem s_l31Open (n : Int) : Spec Try.prog 179 0 [] [.i n] (fun r _ _ _ => r = .bo (inB n 3 7)) := by
  refine mk179 rfl fun c hP hm => ?_
  unfold pc179
  simp only [hm, go_sem, ↓reduceIte]
  refine c_l6In hP ?_
  simp only [hm, go_sem, ↓reduceIte]
theorem s_specAssocValid (a : Assoc) (ha : SFit a.a) (hb : SFit a.b) : Spec Try.prog 121 0 [] [a.ro] (fun r _ _ _ => r = .bo (assocB a)) := by
  refine mk121 rfl fun c hP hm => ?_
  unfold pc121 Assoc.ro Assoc.av
  have ka := ha.1
  have kb := hb.1
  have hw : IntKind.i64.wrap ((a.a.sent.length : Int) + (a.b.sent.length : Int)) = (a.a.sent.length : Int) + a.b.sent.length := wrap64 (by omega) (by omega)
  have hif := @assocB_iff a
  simp only [hw, hm, go_sem, ↓reduceIte]
  repeat' first | refine And.intro ?_ ?_ | intro _ | (refine c_l6In hP ?_; simp only [hw, hm, go_sem, ↓reduceIte]) | (refine call_pure (hP ▸ s_l31Open a.state) rfl rfl ?_; simp only [hw, hm, go_sem, ↓reduceIte]) | (refine call_pure (hP ▸ s_specSideValid a.a ha.1 ha.2) rfl rfl ?_; simp only [hw, hm, go_sem, ↓reduceIte]; cases hsa : sideB a.a <;> simp only [hw, hm, go_sem, ↓reduceIte]) | (refine call_pure (hP ▸ s_specSideValid a.b hb.1 hb.2) rfl rfl ?_; simp only [hw, hm, go_sem, ↓reduceIte]; cases hsb : sideB a.b <;> simp only [hw, hm, go_sem, ↓reduceIte])
  all_goals first
    | omega
    | (apply bo_inj
       rw [Bool.eq_iff_iff, hif]
       clear hif ha hb hP hm hw
       first
         | (simp_all; done)
         | (simp_all; omega)
         | (simp only [decide_eq_decide, inB, decide_eq_true_eq, decide_eq_false_iff_not] at *; simp only [true_iff]; refine ⟨by omega, by omega, by omega, by omega, by assumption, by assumption, by omega, by omega, by omega, ?_⟩; first | exact .inl (by assumption) | exact .inr (by omega))
         | (simp only [decide_eq_decide, inB, decide_eq_true_eq, decide_eq_false_iff_not] at *
            constructor
            · intro h5
              refine ⟨by omega, by omega, by omega, by omega, by assumption, by assumption, by omega, by omega, by omega, .inr h5⟩
            · rintro ⟨g1, g2, g3, g4, g5, g6, g7, g8, g9, g10⟩
              rcases g10 with g | g
              · simp_all
                done
              · exact g)
         | (simp only [decide_eq_decide, inB, decide_eq_true_eq, decide_eq_false_iff_not] at *; simp only [Bool.false_eq_true, false_iff]; rintro ⟨g1, g2, g3, g4, g5, g6, g7, g8, g9, g10⟩; first | omega | (simp_all; done) | (simp_all; omega)))
end Go.Cap

/- Contracts: findings; monitors are valid (the program's). -/
namespace Go.Cap
open Go Go.Proofs
set_option maxRecDepth 100000
set_option linter.unusedSimpArgs false
set_option linter.unusedVariables false
attribute [local irreducible] Call Run Spec Le

structure MFit (m : Mon) : Prop where
  nl : m.list.length ≤ 2000000
  nf : m.found.length ≤ 2000000
  a : ∀ x ∈ m.list, SFit x.a ∧ SFit x.b
theorem s_samePorts (a : Assoc) (x y : RV) (f t : Int) : Spec Try.prog 129 0 [] [a.av (.r x) (.r y), .i f, .i t] (fun r _ _ _ => r = .bo (pairB a f t)) := by
  refine mk129 rfl fun c hP hm => ?_
  unfold pc129 Assoc.av
  simp only [hm, go_sem, ↓reduceIte]
  repeat' first | refine And.intro ?_ ?_ | intro _
  all_goals (apply bo_inj; unfold pairB; first | (rw [decide_eq_true (by omega)]; done) | (rw [decide_eq_false (by omega)]; done) | (simp [*]; done) | (rw [Bool.eq_iff_iff]; simp [*] <;> omega))
theorem s_l32Pair (a b : Assoc) (x y u v : RV) : Spec Try.prog 122 0 [] [a.av (.r x) (.r y), b.av (.r u) (.r v)] (fun r _ _ _ => r = .bo (pairB a b.fr b.to)) := by
  refine mk122 rfl fun c hP hm => ?_
  unfold pc122 Assoc.av
  simp only [hm, go_sem, ↓reduceIte]
  repeat' first | refine And.intro ?_ ?_ | intro _
  all_goals (apply bo_inj; unfold pairB; first | (rw [decide_eq_true (by omega)]; done) | (rw [decide_eq_false (by omega)]; done) | (simp [*]; done) | (rw [Bool.eq_iff_iff]; simp [*] <;> omega))
theorem s_l32Finding (f : Fnd) (n : Int) : Spec Try.prog 123 0 [] [f.av, .i n] (fun r _ _ _ => r = .bo (fndB (IntKind.i64.wrap (n - 1) + 1) f)) := by
  refine mk123 rfl fun c hP hm => ?_
  unfold pc123 Fnd.av
  simp only [hm, go_sem, ↓reduceIte]
  repeat' first | refine And.intro ?_ ?_ | intro _ | (refine c_l6In hP ?_; simp only [hm, go_sem, ↓reduceIte])
  all_goals (apply bo_inj; simp [fndB, *])
theorem s_l32Less (a b : Fnd) : Spec Try.prog 124 0 [] [a.av, b.av] (fun r _ _ _ => r = .bo (lessB a b)) := by
  refine mk124 rfl fun c hP hm => ?_
  unfold pc124 Fnd.av
  simp only [hm, go_sem, ↓reduceIte]
  repeat' first | refine And.intro ?_ ?_ | intro _
  all_goals (apply bo_inj; unfold lessB; first | (rw [decide_eq_true (by omega)]; done) | (rw [decide_eq_false (by omega)]; done) | (rw [Bool.eq_iff_iff]; simp [*] <;> omega) | (simp [*]; done))
theorem rowAt {l : List Fnd} {i : Nat} (h : i < l.length) : (l.map Fnd.row).getD i [] = (fndAt l i).row := by rw [getD_map h, fndAt_eq h]
theorem s_implFoundOk (l : List Fnd) (n : Int) : Spec Try.prog 130 0 [] [.r (.ro none (l.map Fnd.row)), .i n] (fun r _ _ _ => r = .bo (foundB n l)) := by
  refine mk130 rfl fun c hP hm => ?_
  unfold pc130
  simp only [hm, go_sem, ↓reduceIte]
  intro hlen
  refine lp_wpc (α := Nat) (fun i => ⟨[(0, .r (.ro none (l.map Fnd.row))), (1, .i n), (7, .r (.ro none (l.map Fnd.row))), (8, .i l.length), (9, .i i)], [], 0, []⟩)
    (fun i => i ≤ l.length ∧ ∀ j, j < i → foundOne n l j = true) (fun i => l.length - i) 0 ⟨Nat.zero_le _, fun j hj => by omega⟩ (by (refine le_ev [] ?_; simp only [hm, go_sem, ↓reduceIte]; first | done | rfl | exact ⟨rfl, rfl⟩)) ?_
  rintro i ⟨hi, hI⟩
  unfold pc130l0
  rcases Nat.lt_or_ge i l.length with hil | hil
  · have hw : IntKind.i64.wrap ((i : Int) + 1) = ((i + 1 : Nat) : Int) := by rw [wrap64 (by omega) (by omega)]; omega
    have hg := rowAt hil
    have hok : foundOne n l i = false → AV.r (RV.b false) = AV.bo (foundB n l) := fun h => by unfold foundB; rw [allB_false hil h]
    have hst : foundOne n l i = true → i + 1 ≤ l.length ∧ ∀ j, j < i + 1 → foundOne n l j = true := fun h => ⟨hil, fun j hj => by
      rcases Nat.lt_or_ge j i with h2 | h2
      · exact hI j h2
      · have : j = i := by omega
        rw [this]; exact h⟩
    have hg1 : 0 < i → (l.map Fnd.row).getD (i - 1) [] = (fndAt l (i - 1)).row := fun _ => rowAt (by omega)
    have hw1 : 0 < i → IntKind.i64.wrap ((i : Int) - 1) = ((i - 1 : Nat) : Int) := fun _ => by rw [wrap64 (by omega) (by omega)]; omega
    have hdef : foundOne n l i = (fndB n (fndAt l i) && (decide (i = 0) || lessB (fndAt l (i - 1)) (fndAt l i))) := rfl
    unfold fndB lessB inB at hdef
    generalize foundOne n l i = F at hok hst hdef
    generalize fndAt l i = f at hg hdef
    generalize fndAt l (i - 1) = e at hg1 hdef
    rcases Nat.eq_zero_or_pos i with h0 | h0
    · subst h0
      have hz : IntKind.i64.wrap ((0 : Int) + 1) = ((0 + 1 : Nat) : Int) := by decide
      simp only [Int.natCast_zero, Int.toNat_zero, hz, hg, Fnd.row, hm, go_sem, ↓reduceIte]
      repeat' first | refine And.intro ?_ ?_ | intro _
      all_goals first
        | omega
        | (refine hok ?_; rw [hdef]; simp; omega)
        | (refine ⟨0 + 1, hst ?_, by omega, by (refine le_ev [] ?_; simp only [hm, go_sem, ↓reduceIte]; first | done | rfl | exact ⟨rfl, rfl⟩)⟩; rw [hdef]; simp; omega)
    · have hne : ¬ i = 0 := by omega
      simp only [hne, decide_false, Bool.false_or] at hdef
      simp only [hw, hw1 h0, Int.toNat_natCast, hg, hg1 h0, Fnd.row, hm, go_sem, ↓reduceIte]
      repeat' first | refine And.intro ?_ ?_ | intro _
      all_goals first
        | omega
        | (refine hok ?_; rw [hdef]; simp; omega)
        | (refine ⟨i + 1, hst ?_, by omega, by (refine le_ev [] ?_; simp only [hm, go_sem, ↓reduceIte]; first | done | rfl | exact ⟨rfl, rfl⟩)⟩; rw [hdef]; simp; omega)
  · have : i = l.length := by omega
    subst this
    have hfin : foundB n l = true := allB_true hI
    simp only [hm, go_sem, ↓reduceIte]
    repeat' first | refine And.intro ?_ ?_ | intro _
    all_goals first
      | omega
      | rw [hfin]
end Go.Cap

/- Contracts: monitors are valid, twice. -/
namespace Go.Cap
open Go Go.Proofs
set_option maxRecDepth 100000
set_option linter.unusedSimpArgs false
set_option linter.unusedVariables false
attribute [local irreducible] Call Run Spec Le

theorem arowAt {l : List Assoc} {i : Nat} (h : i < l.length) : (l.map Assoc.row).getD i [] = (assocAt l i).row := by rw [getD_map h, assocAt_eq h]
theorem take_at {l : List Assoc} {i k : Nat} (h : k < i) (hi : i ≤ l.length) : ((l.map Assoc.row).take i).getD k [] = (assocAt l k).row := by
  rw [List.getD_eq_getElem?_getD, List.getElem?_take, if_pos h, List.getElem?_map, List.getElem?_eq_getElem (by omega), assocAt_eq (by omega)]
  rfl
theorem lt_succ' {Q : Nat → Prop} {i : Nat} (h : ∀ j, j < i → Q j) (hi : Q i) : ∀ j, j < i + 1 → Q j := fun j hj => by
  rcases Nat.lt_or_ge j i with h2 | h2
  · exact h j h2
  · have : j = i := by omega
    rw [this]; exact hi
theorem lt_succ_all {p : Nat → Bool} {i : Nat} (h : ∀ j, j < i → p j = true) (hi : p i = true) : ∀ j, j < i + 1 → p j = true := fun j hj => by
  rcases Nat.lt_or_ge j i with h2 | h2
  · exact h j h2
  · have : j = i := by omega
    rw [this]; exact hi
theorem s_implMonitorValid (m : Mon) (hf : MFit m) : Spec Try.prog 45 0 [] [m.ro] (fun r _ _ _ => r = .bo (monB m)) := by
  refine mr45 rfl fun c hP hm => ?_
  unfold pc45 Mon.ro
  refine run_seq (run_wpc _ _ _ _ _ ?_)
  simp only [hm, go_sem, ↓reduceIte]
  refine run_seq (run_wpc _ _ _ _ _ ?_)
  simp only [hm, go_sem, ↓reduceIte]
  repeat' first | refine And.intro ?_ ?_ | intro _
  all_goals first
    | (apply bo_inj; unfold monB inB; simp; omega)
    | skip
  have hn3 : m.list.length ≤ 3 := by omega
  refine run_wpc _ _ _ _ _ ?_
  simp only [hm, go_sem, ↓reduceIte]
  intro _
  refine run_exit 0 (fun t0 => t0 = ⟨[(1, .ptr 0 0 0)], [(0, .var [.i m.records, .r (.ro none (m.list.map Assoc.row)), .r (.ro none (m.found.map Fnd.row))])], 1, []⟩ ∧ listB m.list = true) ?_ ?_
  rotate_left
  · rintro t0 ⟨rfl, hL⟩
    simp only [hm, go_sem, ↓reduceIte]
    refine call_pure (hP ▸ s_implFoundOk m.found m.records) rfl rfl ?_
    simp only [hm, go_sem, ↓reduceIte]
    apply bo_inj
    unfold monB inB
    rw [hL]
    simp
    omega
  refine lp_wpc (α := Nat) (fun i => ⟨[(1, .ptr 0 0 0), (22, .r (.ro none (m.list.map Assoc.row))), (23, .i m.list.length), (24, .i i)], [(0, .var [.i m.records, .r (.ro none (m.list.map Assoc.row)), .r (.ro none (m.found.map Fnd.row))])], 1, []⟩)
    (fun i => i ≤ m.list.length ∧ ∀ j, j < i → listOne m.list j = true) (fun i => m.list.length - i) 0 ⟨Nat.zero_le _, fun j hj => by omega⟩ (by (refine le_ev [] ?_; simp only [hm, go_sem, ↓reduceIte]; first | done | rfl | exact ⟨rfl, rfl⟩)) ?_
  rintro i ⟨hi, hI⟩
  unfold pc45l1
  rcases Nat.lt_or_ge i m.list.length with hil | hil
  · have hw : IntKind.i64.wrap ((i : Int) + 1) = ((i + 1 : Nat) : Int) := by rw [wrap64 (by omega) (by omega)]; omega
    have hg := arowAt hil
    have hok : listOne m.list i = false → AV.r (RV.b false) = AV.bo (monB m) := fun h => by unfold monB listB; rw [allB_false hil h]; simp
    have hst : listOne m.list i = true → i + 1 ≤ m.list.length ∧ ∀ j, j < i + 1 → listOne m.list j = true := fun h => ⟨hil, lt_succ_all hI h⟩
    obtain ⟨fa, fb⟩ := hf.a _ (List.getElem_mem hil)
    rw [← assocAt_eq hil] at fa fb
    simp only [Int.toNat_natCast, hg, Assoc.row, Assoc.cellsX, hm, go_sem, ↓reduceIte]
    repeat' first | refine And.intro ?_ ?_ | intro _
    all_goals first
      | omega
      | rfl
      | skip
    refine call_pure (hP ▸ s_implAssocValid (assocAt m.list i) fa fb) rfl rfl ?_
    simp only [Int.toNat_natCast, hg, Assoc.row, Assoc.cellsX, hm, go_sem, ↓reduceIte]
    repeat' first | refine And.intro ?_ ?_ | intro _
    all_goals first
      | omega
      | rfl
      | (refine hok ?_; simp [listOne, *]; done)
      | (rename_i hr; obtain ⟨_, _, rfl⟩ := List.mem_map.1 hr; rfl)
      | skip
    rename_i hav hs0 _
    have htl : (List.take i (m.list.map Assoc.row)).length = i := by rw [List.length_take, List.length_map]; omega
    rw [htl]
    refine lp_wpc (α := Nat) (fun k => ⟨[(1, .ptr 0 0 0), (4, .ptr 1 0 0), (22, .r (.ro none (m.list.map Assoc.row))), (23, .i m.list.length), (24, .i i), (40, .r (.ro none ((m.list.map Assoc.row).take i))), (41, .i i), (42, .i k)], [(0, .var [.i m.records, .r (.ro none (m.list.map Assoc.row)), .r (.ro none (m.found.map Fnd.row))]), (1, .var ((assocAt m.list i).row.map .r))], 2, []⟩)
      (fun k => k ≤ i ∧ ∀ j, j < k → pairB (assocAt m.list j) (assocAt m.list i).fr (assocAt m.list i).to = false) (fun k => i - k) 0 ⟨Nat.zero_le _, fun j hj => by omega⟩ (by simp only [Assoc.row, Assoc.cellsX, List.map_cons, List.map_nil]; (refine le_ev [] ?_; simp only [hm, go_sem, ↓reduceIte]; first | done | rfl | exact ⟨rfl, rfl⟩)) ?_
    rintro k ⟨hk, hK⟩
    unfold pc45l0
    rcases Nat.lt_or_ge k i with hki | hki
    · have hwk : IntKind.i64.wrap ((k : Int) + 1) = ((k + 1 : Nat) : Int) := by rw [wrap64 (by omega) (by omega)]; omega
      have hgk := take_at hki hi
      simp only [Int.toNat_natCast, htl, hgk, Assoc.row, Assoc.cellsX, List.map_cons, List.map_nil, hm, go_sem, ↓reduceIte]
      repeat' first | refine And.intro ?_ ?_ | intro _
      all_goals first
        | omega
        | rfl
        | skip
      refine call_pure (hP ▸ s_samePorts (assocAt m.list k) _ _ _ _) rfl rfl ?_
      simp only [Int.toNat_natCast, htl, hgk, Assoc.row, Assoc.cellsX, hwk, hm, go_sem, ↓reduceIte]
      repeat' first | refine And.intro ?_ ?_ | intro _
      all_goals first
        | omega
        | (rename_i hpp; refine hok ?_; have := allB_false (p := fun k => !pairB (assocAt m.list k) (assocAt m.list i).fr (assocAt m.list i).to) hki (by simp [hpp]); simp [listOne, this]; done)
        | (rename_i hpp; refine ⟨k + 1, ⟨hki, lt_succ' hK hpp⟩, by omega, ?_⟩; (refine le_ev [] ?_; simp only [hm, go_sem, ↓reduceIte]; first | done | rfl | exact ⟨rfl, rfl⟩))
    · have : k = i := by omega
      subst this
      have hall : allB k (fun j => !pairB (assocAt m.list j) (assocAt m.list k).fr (assocAt m.list k).to) = true := allB_true fun j hj => by rw [hK j hj]; rfl
      simp only [hw, hm, go_sem, ↓reduceIte]
      repeat' first | refine And.intro ?_ ?_ | intro _
      all_goals first
        | omega
        | (refine ⟨k + 1, hst ?_, by omega, ?_⟩
           · simp [listOne, *]
           · (refine le_ev [] ?_; simp only [hm, go_sem, ↓reduceIte]; first | done | rfl | exact ⟨rfl, rfl⟩))
  · have : i = m.list.length := by omega
    subst this
    have hfin : listB m.list = true := allB_true hI
    simp only [hm, go_sem, ↓reduceIte]
    repeat' first | refine And.intro ?_ ?_ | intro _
    all_goals first
      | omega
      | (refine ⟨_, ⟨rfl, hfin⟩, ?_⟩; (refine le_ev [] ?_; simp only [hm, go_sem, ↓reduceIte]; first | done | rfl | exact ⟨rfl, rfl⟩))
theorem s_specMonitorValid (m : Mon) (hf : MFit m) : Spec Try.prog 43 0 [] [m.ro] (fun r _ _ _ => r = .bo (monB m)) := by
  refine mr43 rfl fun c hP hm => ?_
  unfold pc43 Mon.ro
  have hnl := hf.nl
  have hnf := hf.nf
  refine run_seq (run_wpc _ _ _ _ _ ?_)
  simp only [hm, go_sem, ↓reduceIte]
  refine run_seq (run_wpc _ _ _ _ _ ?_)
  simp only [hm, go_sem, ↓reduceIte]
  refine run_exit 0 (fun t0 => t0 = ⟨[(1, .ptr 0 0 0)], [(0, .var [.i m.records, .r (.ro none (m.list.map Assoc.row)), .r (.ro none (m.found.map Fnd.row))])], 1, []⟩ ∧ listB m.list = true) ?_ ?_
  · refine lp_wpc (α := Nat) (fun i => ⟨[(1, .ptr 0 0 0), (3, .i i)], [(0, .var [.i m.records, .r (.ro none (m.list.map Assoc.row)), .r (.ro none (m.found.map Fnd.row))])], 1, []⟩)
      (fun i => i ≤ m.list.length ∧ ∀ j, j < i → listOne m.list j = true) (fun i => m.list.length - i) 0 ⟨Nat.zero_le _, fun j hj => by omega⟩ (by (refine le_ev [] ?_; simp only [hm, go_sem, ↓reduceIte]; first | done | rfl | exact ⟨rfl, rfl⟩)) ?_
    rintro i ⟨hi, hI⟩
    unfold pc43l1
    rcases Nat.lt_or_ge i m.list.length with hil | hil
    · have hw : IntKind.i64.wrap ((i : Int) + 1) = ((i + 1 : Nat) : Int) := by rw [wrap64 (by omega) (by omega)]; omega
      have hg := arowAt hil
      have hok : listOne m.list i = false → AV.r (RV.b false) = AV.bo (monB m) := fun h => by unfold monB listB; rw [allB_false hil h]; simp
      have hst : listOne m.list i = true → i + 1 ≤ m.list.length ∧ ∀ j, j < i + 1 → listOne m.list j = true := fun h => ⟨hil, lt_succ_all hI h⟩
      obtain ⟨fa, fb⟩ := hf.a _ (List.getElem_mem hil)
      rw [← assocAt_eq hil] at fa fb
      simp only [Int.toNat_natCast, hg, Assoc.row, Assoc.cellsX, hm, go_sem, ↓reduceIte]
      repeat' first | refine And.intro ?_ ?_ | intro _
      all_goals first
        | omega
        | rfl
        | skip
      refine call_pure (hP ▸ s_specAssocValid (assocAt m.list i) fa fb) rfl rfl ?_
      simp only [Int.toNat_natCast, hg, Assoc.row, Assoc.cellsX, hm, go_sem, ↓reduceIte]
      repeat' first | refine And.intro ?_ ?_ | intro _
      all_goals first
        | omega
        | rfl
        | (refine hok ?_; simp [listOne, *]; done)
        | skip
      rename_i hav hs0
      refine lp_wpc (α := Nat) (fun k => ⟨[(1, .ptr 0 0 0), (3, .i i), (4, .i k)], [(0, .var [.i m.records, .r (.ro none (m.list.map Assoc.row)), .r (.ro none (m.found.map Fnd.row))])], 1, []⟩)
        (fun k => k ≤ i ∧ ∀ j, j < k → pairB (assocAt m.list j) (assocAt m.list i).fr (assocAt m.list i).to = false) (fun k => i - k) 0 ⟨Nat.zero_le _, fun j hj => by omega⟩ (by (refine le_ev [] ?_; simp only [hm, go_sem, ↓reduceIte]; first | done | rfl | exact ⟨rfl, rfl⟩)) ?_
      rintro k ⟨hk, hK⟩
      unfold pc43l0
      rcases Nat.lt_or_ge k i with hki | hki
      · have hwk : IntKind.i64.wrap ((k : Int) + 1) = ((k + 1 : Nat) : Int) := by rw [wrap64 (by omega) (by omega)]; omega
        have hgk := arowAt (l := m.list) (show k < m.list.length by omega)
        simp only [Int.toNat_natCast, hg, hgk, Assoc.row, Assoc.cellsX, hm, go_sem, ↓reduceIte]
        repeat' first | refine And.intro ?_ ?_ | intro _
        all_goals first
          | omega
          | rfl
          | skip
        refine call_pure (hP ▸ s_l32Pair (assocAt m.list k) (assocAt m.list i) _ _ _ _) rfl rfl ?_
        simp only [Int.toNat_natCast, hg, hgk, Assoc.row, Assoc.cellsX, hwk, hm, go_sem, ↓reduceIte]
        repeat' first | refine And.intro ?_ ?_ | intro _
        all_goals first
          | omega
          | rfl
          | (rename_i hpp; refine hok ?_; have := allB_false (p := fun k => !pairB (assocAt m.list k) (assocAt m.list i).fr (assocAt m.list i).to) hki (by simp [hpp]); simp [listOne, this]; done)
          | (rename_i hpp; refine ⟨k + 1, ⟨hki, lt_succ' hK hpp⟩, by omega, ?_⟩; (refine le_ev [] ?_; simp only [hm, go_sem, ↓reduceIte]; first | done | rfl | exact ⟨rfl, rfl⟩))
      · have : k = i := by omega
        subst this
        have hall : allB k (fun j => !pairB (assocAt m.list j) (assocAt m.list k).fr (assocAt m.list k).to) = true := allB_true fun j hj => by rw [hK j hj]; rfl
        simp only [hw, hm, go_sem, ↓reduceIte]
        repeat' first | refine And.intro ?_ ?_ | intro _
        all_goals first
          | omega
          | (refine ⟨k + 1, hst ?_, by omega, ?_⟩
             · simp [listOne, *]
             · (refine le_ev [] ?_; simp only [hm, go_sem, ↓reduceIte]; first | done | rfl | exact ⟨rfl, rfl⟩))
    · have : i = m.list.length := by omega
      subst this
      have hfin : listB m.list = true := allB_true hI
      simp only [hm, go_sem, ↓reduceIte]
      repeat' first | refine And.intro ?_ ?_ | intro _
      all_goals first
        | omega
        | (refine ⟨_, ⟨rfl, hfin⟩, ?_⟩; (refine le_ev [] ?_; simp only [hm, go_sem, ↓reduceIte]; first | done | rfl | exact ⟨rfl, rfl⟩))
  rintro t0 ⟨rfl, hL⟩
  refine run_seq (run_wpc _ _ _ _ _ ?_)
  simp only [hm, go_sem, ↓reduceIte]
  have hbad : foundB (IntKind.i64.wrap (m.records - 1) + 1) m.found = false → monB m = false := fun h => by
    unfold monB
    by_cases hr : inB m.records 0 60 = true
    · have : IntKind.i64.wrap (m.records - 1) + 1 = m.records := by
        simp only [inB, decide_eq_true_eq] at hr
        rw [wrap64 (by omega) (by omega)]; omega
      rw [this] at h
      rw [h]; simp
    · simp [hr]
  have hgood : foundB (IntKind.i64.wrap (m.records - 1) + 1) m.found = true → inB m.records 0 60 = true → foundB m.records m.found = true := fun h hr => by
    have : IntKind.i64.wrap (m.records - 1) + 1 = m.records := by
      simp only [inB, decide_eq_true_eq] at hr
      rw [wrap64 (by omega) (by omega)]; omega
    rw [this] at h; exact h
  generalize hB : IntKind.i64.wrap (m.records - 1) + 1 = B at hbad hgood
  refine run_exit 4 (fun t0 => t0 = ⟨[(1, .ptr 0 0 0)], [(0, .var [.i m.records, .r (.ro none (m.list.map Assoc.row)), .r (.ro none (m.found.map Fnd.row))])], 1, []⟩ ∧ foundB B m.found = true) ?_ ?_
  · refine lp_wpc (α := Nat) (fun i => ⟨[(1, .ptr 0 0 0), (5, .i i)], [(0, .var [.i m.records, .r (.ro none (m.list.map Assoc.row)), .r (.ro none (m.found.map Fnd.row))])], 1, []⟩)
      (fun i => i ≤ m.found.length ∧ ∀ j, j < i → foundOne B m.found j = true) (fun i => m.found.length - i) 0 ⟨Nat.zero_le _, fun j hj => by omega⟩ (by (refine le_ev [] ?_; simp only [hm, go_sem, ↓reduceIte]; first | done | rfl | exact ⟨rfl, rfl⟩)) ?_
    rintro i ⟨hi, hI⟩
    unfold pc43l2
    rcases Nat.lt_or_ge i m.found.length with hil | hil
    · have hw : IntKind.i64.wrap ((i : Int) + 1) = ((i + 1 : Nat) : Int) := by rw [wrap64 (by omega) (by omega)]; omega
      have hg := rowAt hil
      have hok : foundOne B m.found i = false → AV.r (RV.b false) = AV.bo (monB m) := fun h => by rw [hbad (allB_false hil h)]
      have hst : foundOne B m.found i = true → i + 1 ≤ m.found.length ∧ ∀ j, j < i + 1 → foundOne B m.found j = true := fun h => ⟨hil, lt_succ_all hI h⟩
      have hg1 : 0 < i → (m.found.map Fnd.row).getD (i - 1) [] = (fndAt m.found (i - 1)).row := fun _ => rowAt (by omega)
      have hw1 : 0 < i → IntKind.i64.wrap ((i : Int) - 1) = ((i - 1 : Nat) : Int) := fun _ => by rw [wrap64 (by omega) (by omega)]; omega
      have hdef : foundOne B m.found i = (fndB B (fndAt m.found i) && (decide (i = 0) || lessB (fndAt m.found (i - 1)) (fndAt m.found i))) := rfl
      have hcf := s_l32Finding (fndAt m.found i) m.records
      have hcl := s_l32Less (fndAt m.found (i - 1)) (fndAt m.found i)
      rw [hB] at hcf
      unfold Fnd.av at hcf hcl
      rcases Nat.eq_zero_or_pos i with h0 | h0
      · subst h0
        have hz : IntKind.i64.wrap ((0 : Int) + 1) = ((0 + 1 : Nat) : Int) := by decide
        simp only [Int.natCast_zero, Int.toNat_zero, hz, hg, Fnd.row, hm, go_sem, ↓reduceIte]
        repeat' first | refine And.intro ?_ ?_ | intro _ | (refine call_pure (hP ▸ hcf) rfl rfl ?_; simp only [Int.natCast_zero, Int.toNat_zero, hz, hg, Fnd.row, hm, go_sem, ↓reduceIte])
        all_goals first
          | omega
          | rfl
          | (refine hok ?_; rw [hdef]; simp [*]; done)
          | (refine ⟨0 + 1, hst ?_, by omega, by (refine le_ev [] ?_; simp only [hm, go_sem, ↓reduceIte]; first | done | rfl | exact ⟨rfl, rfl⟩)⟩; rw [hdef]; simp [*])
      · have hne : ¬ i = 0 := by omega
        simp only [hne, decide_false, Bool.false_or] at hdef
        simp only [hw, hw1 h0, Int.toNat_natCast, hg, hg1 h0, Fnd.row, hm, go_sem, ↓reduceIte]
        repeat' first | refine And.intro ?_ ?_ | intro _ | (refine call_pure (hP ▸ hcf) rfl rfl ?_; simp only [hw, hw1 h0, Int.toNat_natCast, hg, hg1 h0, Fnd.row, hm, go_sem, ↓reduceIte]) | (refine call_pure (hP ▸ hcl) rfl rfl ?_; simp only [hw, hw1 h0, Int.toNat_natCast, hg, hg1 h0, Fnd.row, hm, go_sem, ↓reduceIte])
        all_goals first
          | omega
          | rfl
          | (refine hok ?_; rw [hdef]; simp [*]; done)
          | (refine ⟨i + 1, hst ?_, by omega, by (refine le_ev [] ?_; simp only [hm, go_sem, ↓reduceIte]; first | done | rfl | exact ⟨rfl, rfl⟩)⟩; rw [hdef]; simp [*])
    · have : i = m.found.length := by omega
      subst this
      have hfin : foundB B m.found = true := allB_true hI
      simp only [hm, go_sem, ↓reduceIte]
      repeat' first | refine And.intro ?_ ?_ | intro _
      all_goals first
        | omega
        | (refine ⟨_, ⟨rfl, hfin⟩, ?_⟩; (refine le_ev [] ?_; simp only [hm, go_sem, ↓reduceIte]; first | done | rfl | exact ⟨rfl, rfl⟩))
  rintro t0 ⟨rfl, hF⟩
  refine run_wpc _ _ _ _ _ ?_
  simp only [hm, go_sem, ↓reduceIte]
  refine c_l6In hP ?_
  simp only [hm, go_sem, ↓reduceIte]
  repeat' first | refine And.intro ?_ ?_ | intro _
  all_goals (apply bo_inj; unfold monB; first | (rw [hL, hgood hF (by assumption)]; simp [*]; done) | (simp [*]; done) | (rw [hL, hgood hF (by assumption), Bool.eq_iff_iff]; simp [*]; omega))
end Go.Cap

/- Contracts: finding associations, twice. -/
namespace Go.Cap
open Go Go.Proofs
set_option maxRecDepth 100000
set_option linter.unusedSimpArgs false
set_option linter.unusedVariables false
attribute [local irreducible] Call Run Spec Le

theorem findIx_some {f t : Int} : ∀ {l : List Assoc} {i : Nat}, i < l.length → (∀ j, j < i → pairB (assocAt l j) f t = false) → pairB (assocAt l i) f t = true → findIx f t l = some i
  | [], i, h, _, _ => by simp at h
  | a :: l, 0, h, _, hp => by rw [findIx, if_pos (by simpa [assocAt] using hp)]
  | a :: l, i + 1, h, hj, hp => by
    have h0 := hj 0 (by omega)
    rw [findIx, if_neg (by simpa [assocAt] using h0), findIx_some (l := l) (i := i) (by simpa using h) (fun j hj' => by simpa [assocAt] using hj (j + 1) (by omega)) (by simpa [assocAt] using hp)]
    rfl
theorem findIx_none {f t : Int} : ∀ {l : List Assoc}, (∀ j, j < l.length → pairB (assocAt l j) f t = false) → findIx f t l = none
  | [], _ => rfl
  | a :: l, hj => by
    have h0 := hj 0 (by simp)
    rw [findIx, if_neg (by simpa [assocAt] using h0), findIx_none (l := l) (fun j hj' => by simpa [assocAt] using hj (j + 1) (by simpa using hj'))]
    rfl
theorem findIx_lt {f t : Int} : ∀ {l : List Assoc} {i : Nat}, findIx f t l = some i → i < l.length ∧ pairB (assocAt l i) f t = true
  | [], i, h => by cases h
  | a :: l, i, h => by
    rw [findIx] at h
    split at h
    · rename_i hp
      cases h
      exact ⟨by simp, by simpa [assocAt] using hp⟩
    · cases hf : findIx f t l with
      | none => rw [hf] at h; cases h
      | some k =>
        rw [hf] at h
        cases h
        obtain ⟨h1, h2⟩ := findIx_lt hf
        exact ⟨by simpa using h1, by simpa [assocAt] using h2⟩
theorem list_valid {l : List Assoc} (h : listB l = true) {i : Nat} (hi : i < l.length) : assocB (assocAt l i) = true ∧ (assocAt l i).state ≠ 0 := by
  have := allB_iff.1 h i hi
  simp only [listOne, Bool.and_eq_true, decide_eq_true_eq] at this
  exact this.1
def ixOr (o : Option Nat) : Int := match o with | some k => k | none => -1
theorem s_l32Find (m : Mon) (f t : Int) (hl : m.list.length ≤ 2000000) : Spec Try.prog 133 0 [] [m.ro, .i f, .i t] (fun r _ _ _ => r = .i (ixOr (findIx f t m.list))) := by
  refine mk133 rfl fun c hP hm => ?_
  unfold pc133 Mon.ro
  simp only [hm, go_sem, ↓reduceIte]
  refine lp_wpc (α := Nat) (fun i => ⟨[(1, .i f), (2, .i t), (3, .ptr 0 0 0), (7, .i i)], [(0, .var [.i m.records, .r (.ro none (m.list.map Assoc.row)), .r (.ro none (m.found.map Fnd.row))])], 1, []⟩)
    (fun i => i ≤ m.list.length ∧ ∀ j, j < i → pairB (assocAt m.list j) f t = false) (fun i => m.list.length - i) 0 ⟨Nat.zero_le _, fun j hj => by omega⟩ (by (refine le_ev [] ?_; simp only [hm, go_sem, ↓reduceIte]; first | done | rfl | exact ⟨rfl, rfl⟩)) ?_
  rintro i ⟨hi, hI⟩
  unfold pc133l0
  rcases Nat.lt_or_ge i m.list.length with hil | hil
  · have hw : IntKind.i64.wrap ((i : Int) + 1) = ((i + 1 : Nat) : Int) := by rw [wrap64 (by omega) (by omega)]; omega
    have hg := arowAt hil
    simp only [hw, Int.toNat_natCast, hg, Assoc.row, Assoc.cellsX, hm, go_sem, ↓reduceIte]
    repeat' first | refine And.intro ?_ ?_ | intro _ | (refine call_pure (hP ▸ s_l32Pair (assocAt m.list i) ⟨f, t, 0, false, noSide, noSide⟩ _ _ .nil .nil) rfl rfl ?_; simp only [hw, Int.toNat_natCast, hg, Assoc.row, Assoc.cellsX, hm, go_sem, ↓reduceIte])
    all_goals first
      | omega
      | rfl
      | (rename_i hp; rw [findIx_some hil hI hp]; rfl)
      | (rename_i hp; refine ⟨i + 1, ⟨hil, lt_succ' hI hp⟩, by omega, ?_⟩; (refine le_ev [] ?_; simp only [hm, go_sem, ↓reduceIte]; first | done | rfl | exact ⟨rfl, rfl⟩))
  · have : i = m.list.length := by omega
    subst this
    simp only [hm, go_sem, ↓reduceIte]
    repeat' first | refine And.intro ?_ ?_ | intro _
    all_goals first
      | omega
      | (rw [findIx_none hI]; rfl)
theorem s_specMonitorFind (m : Mon) (f t : Int) (hf : MFit m) : Spec Try.prog 47 0 [] [m.ro, .i f, .i t] (fun r _ _ _ => r = .tup [.i (monFind m f t).1, .bo (monFind m f t).2]) := by
  refine mk47 rfl fun c hP hm => ?_
  have hnl := hf.nl
  unfold pc47 Mon.ro
  simp only [hm, go_sem, ↓reduceIte]
  refine call_pure (hP ▸ s_l32Find m f t hf.nl) rfl rfl ?_
  simp only [hm, go_sem, ↓reduceIte]
  refine call_pure (hP ▸ s_specMonitorValid m hf) rfl rfl ?_
  simp only [hm, go_sem, ↓reduceIte]
  unfold monFind
  cases hv : monB m
  · simp only [hm, go_sem, ↓reduceIte]
  · cases hx : findIx f t m.list with
    | none => simp only [ixOr, hm, go_sem, ↓reduceIte]
    | some k =>
      obtain ⟨h1, h2⟩ := findIx_lt hx
      have hg := arowAt h1
      have hL : listB m.list = true := by simp only [monB, Bool.and_eq_true] at hv; exact hv.1.2
      obtain ⟨ha, _⟩ := list_valid hL h1
      rw [assocB_iff] at ha
      have hd : ((assocAt m.list k).fr != f) = decide ((assocAt m.list k).fr = t) := by
        simp only [pairB, decide_eq_true_eq] at h2
        rw [Bool.eq_iff_iff, bne_iff_ne, decide_eq_true_eq]; omega
      simp only [ixOr, Int.toNat_natCast, hg, Assoc.row, Assoc.cellsX, hm, go_sem, ↓reduceIte]
      repeat' first | refine And.intro ?_ ?_ | intro _
      all_goals first
        | omega
        | rfl
        | rw [hd]
theorem s_implMonitorFind (m : Mon) (f t : Int) (hf : MFit m) : Spec Try.prog 48 0 [] [m.ro, .i f, .i t] (fun r _ _ _ => r = .tup [.i (monFind m f t).1, .bo (monFind m f t).2]) := by
  refine mk48 rfl fun c hP hm => ?_
  have hnl := hf.nl
  unfold pc48 Mon.ro
  simp only [hm, go_sem, ↓reduceIte]
  refine call_pure (hP ▸ s_implMonitorValid m hf) rfl rfl ?_
  simp only [hm, go_sem, ↓reduceIte]
  unfold monFind
  cases hv : monB m
  · simp only [hm, go_sem, ↓reduceIte]
  · simp only [hm, go_sem, ↓reduceIte]
    intro _
    refine lp_wpc (α := Nat) (fun i => ⟨[(1, .i f), (2, .i t), (14, .r (.ro none (m.list.map Assoc.row))), (15, .i m.list.length), (16, .i i)], [], 0, []⟩)
      (fun i => i ≤ m.list.length ∧ ∀ j, j < i → pairB (assocAt m.list j) f t = false) (fun i => m.list.length - i) 0 ⟨Nat.zero_le _, fun j hj => by omega⟩ (by (refine le_ev [] ?_; simp only [hm, go_sem, ↓reduceIte]; first | done | rfl | exact ⟨rfl, rfl⟩)) ?_
    rintro i ⟨hi, hI⟩
    unfold pc48l0
    rcases Nat.lt_or_ge i m.list.length with hil | hil
    · have hw : IntKind.i64.wrap ((i : Int) + 1) = ((i + 1 : Nat) : Int) := by rw [wrap64 (by omega) (by omega)]; omega
      have hg := arowAt hil
      simp only [hw, Int.toNat_natCast, hg, Assoc.row, Assoc.cellsX, hm, go_sem, ↓reduceIte]
      repeat' first | refine And.intro ?_ ?_ | intro _ | (refine call_pure (hP ▸ s_samePorts (assocAt m.list i) _ _ f t) rfl rfl ?_; simp only [hw, Int.toNat_natCast, hg, Assoc.row, Assoc.cellsX, hm, go_sem, ↓reduceIte])
      all_goals first
        | omega
        | rfl
        | (rename_i hp; rw [findIx_some hil hI hp]; rfl)
        | (rename_i hp; rw [findIx_some hil hI hp]; simp; done)
        | (rename_i hp; refine ⟨i + 1, ⟨hil, lt_succ' hI hp⟩, by omega, ?_⟩; (refine le_ev [] ?_; simp only [hm, go_sem, ↓reduceIte]; first | done | rfl | exact ⟨rfl, rfl⟩))
    · have : i = m.list.length := by omega
      subst this
      have hnone := findIx_none hI
      simp only [hnone, hm, go_sem, ↓reduceIte]
      repeat' first | refine And.intro ?_ ?_ | intro _
      all_goals first
        | omega
        | rfl
end Go.Cap

/- Contracts: marks that a law leaves in what the program returned. -/
namespace Go.Cap
open Go Go.Proofs
set_option maxRecDepth 100000
set_option linter.unusedSimpArgs false
set_option linter.unusedVariables false
attribute [local irreducible] Call Run Spec Le

def marks {α : Type} (f : Int → α) (w : Int) (k : Nat) (n : Int) : List α := (List.range k).map fun (i : Nat) => f (n + w * (i : Int))
theorem s_eqData (x : Data) : Spec Try.prog 222 0 [] [x.av, x.av] (fun r _ _ _ => r = .bo true) := by
  refine mk222 rfl fun c hP hm => ?_
  unfold pc222 Data.av
  simp only [go_sem, ↓reduceIte]
theorem s_eqDataS (l : List Data) : Spec Try.prog 194 0 [] [.r (.ro none (l.map Data.row)), .r (.ro none (l.map Data.row))] (fun r _ _ _ => r = .bo true) := by
  refine mk194 rfl fun c hP hm => ?_
  unfold pc194
  simp only [go_sem, ↓reduceIte]
  intro hlen _
  refine lp_wpc (α := Nat) (fun i => ⟨[(0, .r (.ro none (l.map Data.row))), (1, .r (.ro none (l.map Data.row))), (5, .i i)], [], 0, []⟩) (fun i => i ≤ l.length) (fun i => l.length - i) 0 (Nat.zero_le _) (Le.refl _) ?_
  intro i hi
  unfold pc194l0
  simp only [go_sem, ↓reduceIte]
  intro _
  intro hlt
  have hil : i < l.length := by omega
  simp only [Int.toNat_natCast, getD_map hil, Data.row, go_sem, ↓reduceIte]
  refine ⟨⟨by omega, by omega⟩, ⟨by omega, by omega⟩, ?_⟩
  refine call_pure (hP ▸ s_eqData l[i]) rfl rfl ?_
  simp only [go_sem, ↓reduceIte]
  rw [wrap64 (by omega) (by omega)]
  exact ⟨i + 1, hil, by omega, Le.refl _⟩
end Go.Cap

/- Contracts: sizes, copies and marks of a side. -/
namespace Go.Cap
open Go Go.Proofs
set_option maxRecDepth 100000
set_option linter.unusedSimpArgs false
set_option linter.unusedVariables false
attribute [local irreducible] Call Run Spec Le

def szDatas (l : List Data) (left : Int) : Int := if left - l.length < 0 then -1 else szTexts (l.map fun s => (s.text.length : Int)) (left - l.length)
theorem s_szData (s : Data) (left : Int) (h : 0 ≤ left ∧ left ≤ 1048576) (ht : (s.text.length : Int) ≤ 9223372036854775807) : Spec Try.prog 210 0 [] [s.av, .i left] (fun r _ _ _ => r = .i (szText s.text.length left)) := by
  refine mk210 rfl fun c hP hm => ?_
  unfold pc210 Data.av
  simp only [go_sem, ↓reduceIte]
  rw [wrap64 (by omega) (by omega)]
  unfold szText
  refine ⟨fun h => ?_, fun h => ?_⟩
  · rw [if_pos h]
  · rw [if_neg (by omega)]
theorem s_szDataS (l : List Data) (left : Int) (h : 0 ≤ left ∧ left ≤ 1048576) (hl : (l.length : Int) ≤ 9223372036854775807) (ht : ∀ s ∈ l, (s.text.length : Int) ≤ 9223372036854775807) :
    Spec Try.prog 182 0 [] [.r (.ro none (l.map Data.row)), .i left] (fun r _ _ _ => r = .i (szDatas l left)) := by
  refine mk182 rfl fun c hP hm => ?_
  unfold pc182
  simp only [go_sem, ↓reduceIte]
  intro _
  rw [wrap64 (by omega) (by omega)]
  unfold szDatas
  refine ⟨fun h => ?_, fun h => ?_⟩
  · rw [if_pos h]
  · rw [if_neg (by omega)]
    refine lp_wpc (α := Nat × Int) (fun y => ⟨[(0, .r (.ro none (l.map Data.row))), (1, .i y.2), (5, .i y.1)], [], 0, []⟩)
      (fun y => y.1 ≤ l.length ∧ 0 ≤ y.2 ∧ y.2 ≤ 1048576 ∧ szTexts ((l.map fun s => (s.text.length : Int)).drop y.1) y.2 = szTexts (l.map fun s => (s.text.length : Int)) (left - l.length)) (fun y => l.length - y.1) (0, left - l.length)
      ⟨Nat.zero_le _, by omega, by omega, rfl⟩ (Le.refl _) ?_
    rintro ⟨i, x⟩ ⟨hi, hx0, hx1, hx⟩
    unfold pc182l0
    simp only [go_sem, ↓reduceIte]
    intro _
    refine ⟨fun hlt => ?_, fun hge => ?_⟩
    · have hil : i < l.length := by omega
      rw [szTexts_drop (by simpa using hil)] at hx
      simp only [List.getElem_map] at hx
      simp only [Int.toNat_natCast, getD_map hil, Data.row, go_sem, ↓reduceIte]
      refine ⟨⟨by omega, by omega⟩, ?_⟩
      refine call_pure (hP ▸ s_szData l[i] x ⟨hx0, hx1⟩ (ht _ (List.getElem_mem hil))) rfl rfl ?_
      simp only [go_sem, ↓reduceIte]
      refine ⟨fun hneg => ?_, fun hpos => ?_⟩
      · rw [if_pos hneg] at hx; rw [← hx]
      · rw [if_neg (by omega)] at hx
        rw [wrap64 (by omega) (by omega)]
        have := szText_le l[i].text.length x (by omega)
        exact ⟨(i + 1, szText l[i].text.length x), ⟨hil, by omega, by omega, hx⟩, by simp only; omega, Le.refl _⟩
    · have : i = l.length := by omega
      subst this
      rw [List.drop_eq_nil_of_le (by simp)] at hx
      rw [← hx]; rfl

theorem s_szSide (t : Side) (left : Int) (h : 0 ≤ left ∧ left ≤ 1048576) (hl : (t.sent.length : Int) ≤ 9223372036854775807) (ht : ∀ s ∈ t.sent, (s.text.length : Int) ≤ 9223372036854775807) :
    Spec Try.prog 134 0 [] [t.ro, .i left] (fun r _ _ _ => r = .i (if szDatas t.sent left < 0 then -1 else szDatas t.sent left)) := by
  refine mk134 rfl fun c hP hm => ?_
  unfold pc134 Side.ro Side.av
  simp only [go_sem, ↓reduceIte]
  refine call_pure (hP ▸ s_szDataS t.sent left h hl ht) rfl rfl ?_
  simp only [go_sem, ↓reduceIte]
  refine ⟨fun h => ?_, fun h => ?_⟩
  · rw [if_pos h]
  · rw [if_neg (by omega)]
theorem s_toData (x : Data) : Spec Try.prog 218 0 [] [x.av] (fun r _ _ _ => r = x.av) := by
  refine mk218 rfl fun c hP hm => ?_
  unfold pc218 Data.av
  simp only [go_sem, ↓reduceIte]
theorem s_toDataS (l : List Data) (hl : l.length ≤ 1048576) : Spec Try.prog 189 0 [] [.r (.ro none (l.map Data.row))] (New1 (.sl 0 0 l.length) 7 (l.map Data.row)) := by
  refine mk189 rfl fun c hP hm => ?_
  unfold pc189
  simp only [go_sem, ↓reduceIte]
  simp only [Int.toNat_natCast]
  intro _
  refine ⟨⟨by omega, by omega⟩, ?_⟩
  refine lp_wpc (α := Nat) (fun i => ⟨[(0, .r (.ro none (l.map Data.row))), (3, .sl 0 0 l.length), (4, .i i)], [(0, .row 7 ((l.map Data.row).take i ++ List.replicate ((l.map Data.row).length - i) [.n .i64 0, .n .i64 0, .n .i64 0, .b false, .b false, .b false, .s []]))], 1, []⟩)
    (fun i => i ≤ l.length) (fun i => l.length - i) 0 (Nat.zero_le _) (le_eq (by simp)) ?_
  intro i hi
  unfold pc189l0
  simp only [go_sem, ↓reduceIte]
  intro _
  refine ⟨fun hlt => ?_, fun hge => ?_⟩
  · have hil : i < l.length := by omega
    simp only [Int.toNat_natCast, getD_map hil, Data.row, go_sem, ↓reduceIte]
    refine ⟨⟨by omega, by omega⟩, ?_⟩
    refine call_pure (hP ▸ s_toData l[i]) rfl rfl ?_
    simp only [Data.av, go_sem, ↓reduceIte, Int.toNat_natCast]
    refine ⟨⟨by omega, by omega⟩, ?_, i + 1, hil, by omega, le_eq ?_⟩
    · simp; omega
    · have h1 := fill_set (M := l.map Data.row) (z := [.n .i64 0, .n .i64 0, .n .i64 0, .b false, .b false, .b false, .s []]) (i := i) (by simpa using hil)
      simp only [List.getElem_map, Data.row, List.length_map] at h1
      try simp only [List.length_map]
      rw [wrap64 (by omega) (by omega), ← h1]
      rfl
  · have : i = l.length := by omega
    subst this
    refine ⟨rfl, ?_, rfl, rfl⟩
    simp
    exact List.take_of_length_le (by simp)
theorem s_eqSide (s : Side) : Spec Try.prog 144 0 [] [s.ro, s.ro] (fun r _ _ _ => r = .bo true) := by
  refine mk144 rfl fun c hP hm => ?_
  unfold pc144 Side.ro Side.av
  simp only [go_sem, ↓reduceIte]
  refine call_pure (hP ▸ s_eqDataS s.sent) rfl rfl ?_
  simp only [go_sem, ↓reduceIte]
abbrev dataRow : List CT := [.i .i64, .i .i64, .i .i64, .b, .b, .b, .s]
theorem data_of (r : List RV) (h : RowOk dataRow r) : ∃ d : Data, r = d.row ∧ d.text.length ≤ maxLen := by
  obtain ⟨x0, r, rfl, h0, h⟩ := rowOk_cons h
  obtain ⟨x1, r, rfl, h1, h⟩ := rowOk_cons h
  obtain ⟨x2, r, rfl, h2, h⟩ := rowOk_cons h
  obtain ⟨x3, r, rfl, h3, h⟩ := rowOk_cons h
  obtain ⟨x4, r, rfl, h4, h⟩ := rowOk_cons h
  obtain ⟨x5, r, rfl, h5, h⟩ := rowOk_cons h
  obtain ⟨x6, r, rfl, h6, h⟩ := rowOk_cons h
  obtain rfl := rowOk_nil h
  obtain ⟨n0, rfl, _⟩ := okc_i h0
  obtain ⟨n1, rfl, _⟩ := okc_i h1
  obtain ⟨n2, rfl, _⟩ := okc_i h2
  obtain ⟨n3, rfl⟩ := okc_b h3
  obtain ⟨n4, rfl⟩ := okc_b h4
  obtain ⟨n5, rfl⟩ := okc_b h5
  obtain ⟨n6, rfl, hl⟩ := okc_s h6
  exact ⟨⟨n0, n1, n2, n3, n4, n5, n6⟩, rfl, hl⟩
end Go.Cap

/- Contracts: drawn texts and parts. -/
namespace Go.Cap
open Go Go.Proofs
set_option maxRecDepth 100000
set_option linter.unusedSimpArgs false
set_option linter.unusedVariables false
attribute [local irreducible] Call Run Spec Le

@[go_sem] theorem frzPH_rd (b n0 j : Nat) (code : List UInt8) (p : Int) (l : List (Nat × Blk)) : frzPH b n0 ((j, rdB code p) :: l) = (True ∧ frzPH b n0 l) := by
  simp only [rdB, frzPH, frzPB, frzP.frzPL, frzP, and_self]
@[go_sem] theorem frzH_rd (b : Nat) (L : List (List RV)) (j : Nat) (code : List UInt8) (p : Int) (l : List (Nat × Blk)) : frzH b L ((j, rdB code p) :: l) = (j, rdB code p) :: frzH b L l := (rfl)
end Go.Cap

/- Contracts: where a part lies; a valid assembly. -/
namespace Go.Cap
open Go Go.Proofs
set_option maxRecDepth 100000
set_option linter.unusedSimpArgs false
set_option linter.unusedVariables false
attribute [local irreducible] Call Run Spec Le

/-- The index of the first part with a number. -/
def atIx : List Data → Int → Option Nat
  | [], _ => none
  | d :: l, x => if d.tsn = x then some 0 else (atIx l x).map (· + 1)
theorem atIx_spec : ∀ (l : List Data) (x : Int), (∀ i, atIx l x = some i ↔ ∃ h : i < l.length, l[i].tsn = x ∧ ∀ j (hj : j < i), l[j].tsn ≠ x)
  | [], x, i => by simp [atIx]
  | d :: l, x, i => by
    simp only [atIx]
    by_cases hd : d.tsn = x
    · rw [if_pos hd]
      constructor
      · intro h; cases h; exact ⟨by simp, hd, fun j hj => by omega⟩
      · rintro ⟨h, h1, h2⟩
        cases i with
        | zero => rfl
        | succ i => exact absurd hd (h2 0 (by omega))
    · rw [if_neg hd]
      cases i with
      | zero =>
        constructor
        · intro h; cases ha : atIx l x <;> simp [ha] at h
        · rintro ⟨h, h1, _⟩; exact absurd h1 hd
      | succ i =>
        have ih := atIx_spec l x i
        constructor
        · intro h
          cases ha : atIx l x with
          | none => simp [ha] at h
          | some k =>
            simp only [ha, Option.map_some, Option.some.injEq, Nat.add_right_cancel_iff] at h
            subst h
            obtain ⟨h0, h1, h2⟩ := ih.1 ha
            refine ⟨by simpa using h0, by simpa using h1, fun j hj => ?_⟩
            cases j with
            | zero => simpa using hd
            | succ j => simpa using h2 j (by omega)
        · rintro ⟨h, h1, h2⟩
          have : atIx l x = some i := ih.2 ⟨by simpa using h, by simpa using h1, fun j hj => by simpa using h2 (j + 1) (by omega)⟩
          simp [this]
theorem atIx_none : ∀ (l : List Data) (x : Int), atIx l x = none ↔ ∀ d ∈ l, d.tsn ≠ x
  | [], x => by simp [atIx]
  | d :: l, x => by
    simp only [atIx]
    by_cases hd : d.tsn = x
    · rw [if_pos hd]; simp [hd]
    · rw [if_neg hd]
      have ih := atIx_none l x
      cases ha : atIx l x with
      | none => simp [hd, ih.1 ha]; exact ih.1 ha
      | some k =>
        simp only [Option.map_some, reduceCtorEq, false_iff]
        intro h
        have := ih.2 fun y hy => h y (List.mem_cons_of_mem _ hy)
        rw [ha] at this; cases this
end Go.Cap

/- The chain of a message's parts, in plain terms. -/
namespace Go.Cap
open Go Go.Proofs
set_option linter.unusedSimpArgs false
set_option linter.unusedVariables false

def dataAt (l : List Data) (k : Nat) : Data := l.getD k ⟨0, 0, 0, false, false, false, []⟩
theorem dataAt_eq {l : List Data} {k : Nat} (h : k < l.length) : dataAt l k = l[k] := by simp [dataAt, List.getD_eq_getElem?_getD, h]
/-- The index of the part that comes behind part 'k'. -/
def nextIx (l : List Data) (k : Nat) : Option Nat := match atIx l (l3 (dataAt l k).tsn 1) with
  | some j => if (dataAt l j).first || !likeB (dataAt l j) (dataAt l k) then none else some j
  | none => none
def chainN : Nat → List Data → Nat → Option (List Nat)
  | 0, _, _ => none
  | n + 1, l, k => if (dataAt l k).last then some [k] else match nextIx l k with
    | some j => (chainN n l j).map (k :: ·)
    | none => none
def chain (l : List Data) (k : Nat) : Option (List Nat) := chainN l.length l k
/-- The parts that a walk has met: their numbers go up by one. -/
structure Walk (l : List Data) (pre : List Nat) (k : Nat) : Prop where
  last : pre.getLast? = some k
  lt : ∀ i ∈ pre, i < l.length
  tsn : ∀ j (h : j < pre.length), (dataAt l pre[j]).tsn = l3 (dataAt l (pre.headD 0)).tsn j
  nodup : pre.Nodup
theorem atIx_some {l : List Data} {x : Int} {j : Nat} (h : atIx l x = some j) : ∃ hj : j < l.length, l[j].tsn = x := by
  obtain ⟨h1, h2, _⟩ := (atIx_spec l x j).1 h
  exact ⟨h1, h2⟩
end Go.Cap

/- Contracts: a valid assembly (the program's). -/
namespace Go.Cap
open Go Go.Proofs
set_option maxRecDepth 100000
set_option linter.unusedSimpArgs false
set_option linter.unusedVariables false
attribute [local irreducible] Call Run Spec Le

structure Asm where
  next : List Int
  parts : List Data
def intRow (n : Int) : List RV := [.n .i64 n]
def Asm.ro (a : Asm) : AV := .agg [.r (.ro none (a.next.map intRow)), .r (.ro none (a.parts.map Data.row))]
end Go.Cap

/- Contracts: the chain of a message's parts, and the message that is due (the program's). -/
namespace Go.Cap
open Go Go.Proofs
set_option maxRecDepth 100000
set_option linter.unusedSimpArgs false
set_option linter.unusedVariables false
attribute [local irreducible] Call Run Spec Le

theorem walk_head {pre : List Nat} {k : Nat} (h : pre.getLast? = some k) : pre = pre.dropLast ++ [k] := by
  have hne : pre ≠ [] := fun e => by rw [e] at h; cases h
  have h2 := List.dropLast_concat_getLast hne
  rw [List.getLast?_eq_some_getLast hne] at h
  have h3 := Option.some.inj h
  rw [h3] at h2; exact h2.symm
/-- What is known of the chain after a walk. -/
def Goes (l : List Data) (k : Nat) (pre : List Nat) (a : Nat) : Prop := chain l k = (chainN (l.length + 1 - pre.length) l a).map (pre.dropLast ++ ·)
theorem Goes.next {l : List Data} {k a j : Nat} {pre : List Nat} (h : Goes l k pre a) (w : Walk l pre a) (hl : pre.length ≤ l.length) (hla : (dataAt l a).last = false) (hn : nextIx l a = some j) : Goes l k (pre ++ [j]) j := by
  unfold Goes at h ⊢
  have e : l.length + 1 - pre.length = (l.length - pre.length) + 1 := by omega
  have e2 : l.length + 1 - (pre ++ [j]).length = l.length - pre.length := by simp
  rw [e, chainN, if_neg (by simp [hla]), hn] at h
  rw [e2, List.dropLast_concat, h]
  cases hc : chainN (l.length - pre.length) l j with
  | none => simp [hc]
  | some t =>
    simp only [hc, Option.map_some]
    congr 1
    conv => rhs; rw [walk_head w.last]
    simp
/-- The number that a stream waits for. -/
def nextAt (a : Asm) (s : Int) : Int := a.next.getD s.toNat 0
def dueAt (a : Asm) (i : Nat) : Option (List Nat) := if (dataAt a.parts i).first && ((dataAt a.parts i).loose || (dataAt a.parts i).ssn == nextAt a (dataAt a.parts i).stream) then chain a.parts i else none
def dueFrom (a : Asm) : List Nat → Option (List Nat)
  | [] => none
  | i :: l => match dueAt a i with
    | some p => some p
    | none => dueFrom a l
def due (a : Asm) : Option (List Nat) := dueFrom a (List.range a.parts.length)
end Go.Cap

/- Assemblies in plain terms: taking a message out, settling, adding. -/
namespace Go.Cap
open Go Go.Proofs
set_option linter.unusedSimpArgs false
set_option linter.unusedVariables false

def textOfIx (l : List Data) (p : List Nat) : List UInt8 := p.flatMap fun i => (dataAt l i).text
/-- The parts whose indices are not among some. -/
def restFrom (p : List Nat) : Nat → List Data → List Data
  | _, [] => []
  | i, d :: l => if i ∈ p then restFrom p (i + 1) l else d :: restFrom p (i + 1) l
def msgOf (a : Asm) (p : List Nat) : Msg := ⟨(dataAt a.parts (p.headD 0)).stream, (dataAt a.parts (p.headD 0)).ssn, (dataAt a.parts (p.headD 0)).loose, textOfIx a.parts p⟩
def takeOut (a : Asm) (p : List Nat) : Asm := ⟨if (msgOf a p).loose then a.next else a.next.set (msgOf a p).stream.toNat (l3 (nextAt a (msgOf a p).stream) 1), restFrom p 0 a.parts⟩
end Go.Cap

/- Contracts: adding a part (the program's): the loops. -/
namespace Go.Cap
open Go Go.Proofs
set_option maxRecDepth 100000
set_option linter.unusedSimpArgs false
set_option linter.unusedVariables false
attribute [local irreducible] Call Run Spec Le

/-- Which indices are taken. -/
def takenR (p : List Nat) : List RV := (List.range 13).map fun j => .b (decide (j ∈ p))
@[go_sem] theorem takenR_len (p : List Nat) : (takenR p).length = 13 := by simp [takenR]
theorem restFrom_drop {p : List Nat} {l : List Data} {i : Nat} (h : i < l.length) : restFrom p i (l.drop i) = if i ∈ p then restFrom p (i + 1) (l.drop (i + 1)) else l[i] :: restFrom p (i + 1) (l.drop (i + 1)) := by
  rw [List.drop_eq_getElem_cons h]; rfl
end Go.Cap

/- Groups of parts, in plain terms: which messages an assembly gives. -/
namespace Go.Cap
open Go Go.Proofs
set_option linter.unusedSimpArgs false
set_option linter.unusedVariables false

theorem nd_inj {α : Type} {l : List α} (h : l.Nodup) {i j : Nat} (hi : i < l.length) (hj : j < l.length) (e : l[i] = l[j]) : i = j := by
  have hp := List.pairwise_iff_getElem.1 h
  rcases Nat.lt_trichotomy i j with h1 | h1 | h1
  · exact absurd e (hp i j hi hj h1)
  · exact h1
  · exact absurd e.symm (hp j i hj hi h1)
def d0 : Data := ⟨0, 0, 0, false, false, false, []⟩
def hd (g : List Data) : Data := g.headD d0
/-- The parts of one message. -/
structure Grp (g : List Data) : Prop where
  ne : g ≠ []
  first : ∀ j (h : j < g.length), g[j].first = decide (j = 0)
  last : ∀ j (h : j < g.length), g[j].last = decide (j + 1 = g.length)
  like : ∀ j (h : j + 1 < g.length), likeB g[j + 1] g[j] = true
  tsn : ∀ j (h : j + 1 < g.length), g[j + 1].tsn = l3 g[j].tsn 1
def msgG (g : List Data) : Msg := ⟨(hd g).stream, (hd g).ssn, (hd g).loose, g.flatMap Data.text⟩
def ord (s : Int) (g : List Data) : Bool := !(hd g).loose && (hd g).stream == s
def hasT (g : List Data) (x : Int) : Bool := g.any fun e => e.tsn == x
structure Grps (gs : List (List Data)) : Prop where
  grp : ∀ g ∈ gs, Grp g
  inj : ∀ d ∈ gs.flatten, ∀ e ∈ gs.flatten, d.tsn = e.tsn → d = e
  nd : gs.flatten.Nodup
  rng : ∀ d ∈ gs.flatten, 0 ≤ d.tsn ∧ d.tsn < 65536
  rank : ∀ i (h : i < gs.length), (hd gs[i]).loose = false → (hd gs[i]).ssn = ((gs.take i).countP (ord (hd gs[i]).stream) : Nat)
theorem Grps.mem {gs : List (List Data)} {g : List Data} {d : Data} (h : g ∈ gs) (hd : d ∈ g) : d ∈ gs.flatten := List.mem_flatten.2 ⟨g, h, hd⟩
theorem hasT_mem {gs : List (List Data)} (G : Grps gs) {g : List Data} (hg : g ∈ gs) {d : Data} (hd : d ∈ gs.flatten) : hasT g d.tsn = true ↔ d ∈ g := by
  unfold hasT
  rw [List.any_eq_true]
  constructor
  · rintro ⟨e, he, h⟩
    rw [G.inj d hd e (Grps.mem hg he) (by simpa using (beq_iff_eq.1 h).symm)]
    exact he
  · intro h; exact ⟨d, h, by simp⟩
def ixOf (l : List Data) (d : Data) : Nat := (atIx l d.tsn).getD 0
/-- Where parts lie. -/
structure Sub (gs : List (List Data)) (l : List Data) : Prop where
  mem : ∀ d ∈ l, d ∈ gs.flatten
  nd : l.Nodup
theorem Sub.ix {gs : List (List Data)} (G : Grps gs) {l : List Data} (S : Sub gs l) {d : Data} (h : d ∈ l) : ∃ i, atIx l d.tsn = some i ∧ ixOf l d = i ∧ ∃ hi : i < l.length, l[i] = d := by
  cases ha : atIx l d.tsn with
  | none => exact absurd rfl ((atIx_none _ _).1 ha d h)
  | some i =>
    obtain ⟨hi, ht⟩ := atIx_some ha
    exact ⟨i, rfl, by simp [ixOf, ha], hi, G.inj _ (S.mem _ (List.getElem_mem hi)) _ (S.mem _ h) ht⟩
theorem Sub.ix_get {gs : List (List Data)} (G : Grps gs) {l : List Data} (S : Sub gs l) {i : Nat} (hi : i < l.length) : ixOf l l[i] = i := by
  obtain ⟨j, _, h2, hj, h3⟩ := S.ix G (List.getElem_mem hi)
  rw [h2]
  exact nd_inj S.nd hj hi h3
theorem Sub.at {gs : List (List Data)} (G : Grps gs) {l : List Data} (S : Sub gs l) {d : Data} (h : d ∈ l) : dataAt l (ixOf l d) = d ∧ ixOf l d < l.length := by
  obtain ⟨i, _, h2, hi, h3⟩ := S.ix G h
  rw [h2, dataAt_eq hi]; exact ⟨h3, hi⟩
theorem drop_cons {g : List Data} {j : Nat} (h : j < g.length) : g.drop j = g[j] :: g.drop (j + 1) := List.drop_eq_getElem_cons h
/-- Parts that are left when a message is taken out. -/
theorem rest_of {gs : List (List Data)} (G : Grps gs) {l : List Data} (S : Sub gs l) {g : List Data} (hg : g ∈ gs) (hl : ∀ d ∈ g, d ∈ l) : ∀ (k : Nat), k ≤ l.length → restFrom (g.map (ixOf l)) k (l.drop k) = (l.drop k).filter fun d => !hasT g d.tsn := by
  intro k hk
  induction h : l.length - k generalizing k with
  | zero => rw [List.drop_eq_nil_of_le (by omega)]; rfl
  | succ m ih =>
    have hkl : k < l.length := by omega
    rw [restFrom_drop hkl, ih (k + 1) (by omega) (by omega), drop_cons hkl, List.filter_cons]
    have hm : k ∈ g.map (ixOf l) ↔ hasT g l[k].tsn = true := by
      rw [hasT_mem G hg (S.mem _ (List.getElem_mem hkl)), List.mem_map]
      constructor
      · rintro ⟨e, he, h2⟩
        obtain ⟨h3, h4⟩ := S.at G (hl e he)
        rw [h2, dataAt_eq hkl] at h3
        rw [h3]; exact he
      · intro h2; exact ⟨_, h2, S.ix_get G hkl⟩
    by_cases hq : hasT g l[k].tsn = true
    · rw [if_pos (hm.2 hq), if_neg (by simp [hq])]
    · rw [if_neg (fun h2 => hq (hm.1 h2)), if_pos (by simpa using hq)]
theorem text_of {gs : List (List Data)} (G : Grps gs) {l : List Data} (S : Sub gs l) : ∀ (g : List Data), (∀ d ∈ g, d ∈ l) → textOfIx l (g.map (ixOf l)) = g.flatMap Data.text
  | [], _ => rfl
  | d :: g, h => by
    have ih := text_of G S g fun x hx => h x (List.mem_cons_of_mem _ hx)
    unfold textOfIx at ih ⊢
    rw [List.map_cons, List.flatMap_cons, ih, (S.at G (h d (List.mem_cons_self ..))).1, List.flatMap_cons]
theorem msg_of {gs : List (List Data)} (G : Grps gs) {a : Asm} (S : Sub gs a.parts) {g : List Data} (hg : g ∈ gs) (hl : ∀ d ∈ g, d ∈ a.parts) : msgOf a (g.map (ixOf a.parts)) = msgG g := by
  have ht := text_of G S g hl
  unfold msgOf msgG
  rw [ht]
  cases g with
  | nil => exact absurd rfl (G.grp _ hg).ne
  | cons d g =>
    have := (S.at G (hl d (List.mem_cons_self ..))).1
    simp only [List.map_cons, List.headD_cons, hd, this]
/-- What an assembly has of the groups: those that were told, in order. -/
structure AInv (gs : List (List Data)) (n : Nat) (arr : List Data) (a : Asm) (ms : List Msg) (T : List (List Data)) : Prop where
  sub : ∀ g ∈ T, g ∈ gs
  in_ : ∀ g ∈ T, ∀ d ∈ g, d ∈ arr
  nd : T.Nodup
  ms : ms = T.map msgG
  parts : a.parts = arr.filter fun d => !(T.any fun g => hasT g d.tsn)
  nlen : a.next.length = n
  next : ∀ s : Int, 0 ≤ s → s < n → nextAt a s = (T.countP (ord s) : Nat)
  rk : ∀ (i : Nat) (s : Int) (h : i < (T.filter (ord s)).length), (hd ((T.filter (ord s))[i])).ssn = (i : Int)
/-- What is known of all parts. -/
structure Base (gs : List (List Data)) (n : Nat) : Prop where
  G : Grps gs
  n4 : 1 ≤ n ∧ n ≤ 4
  many : gs.length ≤ 60000
  str : ∀ d ∈ gs.flatten, 0 ≤ d.stream ∧ d.stream < n
section
variable {gs : List (List Data)} {n : Nat} {arr : List Data} {a : Asm} {ms : List Msg} {T : List (List Data)}
theorem AInv.S (B : Base gs n) (A : Sub gs arr) (I : AInv gs n arr a ms T) : Sub gs a.parts := by
  rw [I.parts]
  exact ⟨fun d hd => A.mem d (List.mem_filter.1 hd).1, A.nd.filter _⟩
theorem AInv.mem (B : Base gs n) (A : Sub gs arr) (I : AInv gs n arr a ms T) {d : Data} : d ∈ a.parts ↔ d ∈ arr ∧ ∀ g ∈ T, d ∉ g := by
  rw [I.parts, List.mem_filter]
  refine and_congr_right fun hd => ?_
  rw [Bool.not_eq_true', List.any_eq_false]
  exact forall_congr' fun g => forall_congr' fun hg => not_congr (hasT_mem B.G (I.sub g hg) (A.mem d hd))
theorem hd_mem {g : List Data} (h : g ≠ []) : hd g ∈ g := by cases g with
  | nil => exact absurd rfl h
  | cons d g => exact List.mem_cons_self ..
theorem AInv.fresh (B : Base gs n) (A : Sub gs arr) (I : AInv gs n arr a ms T) {g : List Data} (hg : g ∈ gs) (hl : ∀ d ∈ g, d ∈ a.parts) : g ∉ T := fun h => by
  have := hd_mem (B.G.grp g hg).ne
  exact ((I.mem B A).1 (hl _ this)).2 g h this
theorem AInv.count (B : Base gs n) (I : AInv gs n arr a ms T) : T.length ≤ gs.length := I.nd.length_le_of_subset I.sub
/-- Taking a group out. -/
theorem AInv.take (B : Base gs n) (A : Sub gs arr) (I : AInv gs n arr a ms T) {g : List Data} (hg : g ∈ gs) (hl : ∀ d ∈ g, d ∈ a.parts) (ho : (hd g).loose = true ∨ (hd g).ssn = nextAt a (hd g).stream) :
    AInv gs n arr (takeOut a (g.map (ixOf a.parts))) (ms ++ [msgOf a (g.map (ixOf a.parts))]) (T ++ [g]) := by
  have S := I.S B A
  have hfr := I.fresh B A hg hl
  have hmg := msg_of B.G S hg hl
  have hstr := B.str _ (Grps.mem hg (hd_mem (B.G.grp g hg).ne))
  have hnd : (T ++ [g]).Nodup := by
    rw [List.nodup_append]
    exact ⟨I.nd, by simp, fun x hx y hy => by simp only [List.mem_singleton] at hy; subst hy; exact fun e => hfr (e ▸ hx)⟩
  refine ⟨fun x hx => ?_, fun x hx d hdx => ?_, hnd, ?_, ?_, ?_, fun s hs hsn => ?_, fun i s h => ?_⟩
  · rcases List.mem_append.1 hx with hx | hx
    · exact I.sub x hx
    · simp only [List.mem_singleton] at hx; subst hx; exact hg
  · rcases List.mem_append.1 hx with hx | hx
    · exact I.in_ x hx d hdx
    · simp only [List.mem_singleton] at hx; subst hx; exact ((I.mem B A).1 (hl d hdx)).1
  · rw [hmg, I.ms, List.map_append]; rfl
  · show restFrom _ 0 a.parts = _
    have := rest_of B.G S hg hl 0 (Nat.zero_le _)
    rw [List.drop_zero] at this
    rw [this, I.parts, List.filter_filter]
    congr 1
    funext d
    rw [List.any_append]
    simp only [List.any_cons, List.any_nil, Bool.or_false, Bool.not_or]
    exact Bool.and_comm _ _
  · unfold takeOut; simp only; split <;> simp [I.nlen]
  · have hcnt : (T ++ [g]).countP (ord s) = T.countP (ord s) + if ord s g = true then 1 else 0 := by
      rw [List.countP_append, List.countP_cons, List.countP_nil]; simp
    have hI := I.next s hs hsn
    have hcl : T.countP (ord s) ≤ 60000 := Nat.le_trans (Nat.le_trans List.countP_le_length (I.count B)) B.many
    unfold takeOut
    rw [hmg]
    unfold nextAt at hI ⊢
    rw [hcnt]
    by_cases hlo : (hd g).loose = true
    · have : (msgG g).loose = true := hlo
      rw [if_pos this, hI]
      simp [ord, hlo]
    · have hlo' : ¬ ((msgG g).loose = true) := hlo
      rw [if_neg hlo']
      have hms : (msgG g).stream = (hd g).stream := rfl
      rw [hms]
      have hnl := I.nlen
      by_cases hst : (hd g).stream = s
      · have : ord s g = true := by simp [ord, hlo, hst]
        rw [if_pos this, hst]
        simp only [List.getD_eq_getElem?_getD]
        rw [List.getElem?_set_self (by omega)]
        simp only [List.getD_eq_getElem?_getD] at hI
        rw [Option.getD_some, hI]
        unfold l3; omega
      · have : ¬ (ord s g = true) := by simp [ord, hst]
        rw [if_neg this]
        simp only [List.getD_eq_getElem?_getD]
        rw [List.getElem?_set_ne (by omega)]
        simp only [List.getD_eq_getElem?_getD] at hI
        exact hI
  · have hfl : (T ++ [g]).filter (ord s) = T.filter (ord s) ++ if ord s g = true then [g] else [] := by
      rw [List.filter_append, List.filter_cons, List.filter_nil]
    rcases Nat.lt_or_ge i (T.filter (ord s)).length with hi | hi
    · have e : ((T ++ [g]).filter (ord s))[i] = (T.filter (ord s))[i] := by
        simp only [hfl]; exact List.getElem_append_left hi
      rw [e]; exact I.rk i s hi
    · by_cases ht : ord s g = true
      · have hlen : ((T ++ [g]).filter (ord s)).length = (T.filter (ord s)).length + 1 := by rw [hfl, if_pos ht]; simp
        have hie : i = (T.filter (ord s)).length := by omega
        have e : ((T ++ [g]).filter (ord s))[i] = g := by
          simp only [hfl, if_pos ht]
          rw [List.getElem_append_right (by omega)]; simp
        rw [e, hie]
        simp only [ord, Bool.and_eq_true, Bool.not_eq_true', beq_iff_eq] at ht
        rcases ho with ho | ho
        · rw [ho] at ht; cases ht.1
        · rw [ho, I.next _ hstr.1 hstr.2, ht.2, List.countP_eq_length_filter]
      · rw [hfl, if_neg ht, List.append_nil] at h; omega
end
end Go.Cap

/- Parts that follow one another make groups; what an assembly gives of them, in order and in any order. -/
namespace Go.Cap
open Go Go.Proofs
set_option linter.unusedSimpArgs false
set_option linter.unusedVariables false

/-- The parts of a message that is still open. -/
structure PreG (g : List Data) : Prop where
  first : ∀ j (h : j < g.length), g[j].first = decide (j = 0)
  last : ∀ j (h : j + 1 < g.length), g[j].last = false
  like : ∀ j (h : j + 1 < g.length), likeB g[j + 1] g[j] = true
  tsn : ∀ j (h : j + 1 < g.length), g[j + 1].tsn = l3 g[j].tsn 1
/-- Parts, cut into groups and what is still open. -/
structure Cut (P : List Data) (gs : List (List Data)) (cur : List Data) : Prop where
  eq : P = gs.flatten ++ cur
  grp : ∀ g ∈ gs, Grp g
  pre : PreG cur
  lst : ∀ x ∈ cur, x.last = false
  said : saidSt P = (gs.map msgG, cur.flatMap Data.text)
  rank : ∀ i (h : i < gs.length), (hd gs[i]).loose = false → (hd gs[i]).ssn = ((gs.take i).countP (ord (hd gs[i]).stream) : Nat)
  crank : cur ≠ [] → (hd cur).loose = false → (hd cur).ssn = (gs.countP (ord (hd cur).stream) : Nat)
  cnt : ∀ s, ssnIn P s = gs.countP (ord s) + (if cur ≠ [] ∧ ord s cur = true then 1 else 0)
theorem Cut.nil : Cut [] [] [] := ⟨rfl, fun g h => (List.not_mem_nil h).elim, ⟨fun j h => by simp at h, fun j h => by simp at h, fun j h => by simp at h, fun j h => by simp at h⟩, fun x h => (List.not_mem_nil h).elim, rfl, fun i h => by simp at h, fun h => absurd rfl h, fun s => by simp [ssnIn]⟩
end Go.Cap

/- Contracts: copies, sizes and equality of associations and monitors, as data. -/
namespace Go.Cap
open Go Go.Proofs
set_option maxRecDepth 100000
set_option linter.unusedSimpArgs false
set_option linter.unusedVariables false
attribute [local irreducible] Call Run Spec Le

theorem s_toDataSP (l : List Data) (hl : l.length ≤ 1048576) : Spec Try.prog 189 0 [] [.r (.ro none (l.map Data.row))] (Plain fun r => r = .r (.ro none (l.map Data.row))) := by
  have := s_toDataS l hl
  rw [← List.length_map (f := Data.row)] at this
  exact this.dataP
theorem s_toSideP (t : Side) (hl : t.sent.length ≤ 1048576) : Spec Try.prog 139 0 [] [t.ro] (fun r _ _ _ => r = t.ro) := by
  refine mk139 rfl fun c hP hm => ?_
  unfold pc139 Side.ro Side.av
  simp only [hm, go_sem, ↓reduceIte]
  refine call_dataP (hP ▸ s_toDataSP t.sent hl) rfl rfl ?_
  simp only [hm, go_sem, ↓reduceIte]
theorem s_toAssocP (a : Assoc) (ha : a.a.sent.length ≤ 1048576) (hb : a.b.sent.length ≤ 1048576) : Spec Try.prog 52 0 [] [a.ro] (fun r _ _ _ => r = a.ro) := by
  refine mk52 rfl fun c hP hm => ?_
  unfold pc52 Assoc.ro Assoc.av
  simp only [hm, go_sem, ↓reduceIte]
  refine call_data (hP ▸ s_toSideP a.a ha) rfl rfl ?_
  simp only [Side.ro, Side.av, hm, go_sem, ↓reduceIte]
  refine call_data (hP ▸ s_toSideP a.b hb) rfl rfl ?_
  simp only [Side.ro, Side.av, hm, go_sem, ↓reduceIte]
theorem s_toFinding (x : Fnd) : Spec Try.prog 180 0 [] [x.av] (fun r _ _ _ => r = x.av) := by
  refine mk180 rfl fun c hP hm => ?_
  unfold pc180 Fnd.av
  simp only [hm, go_sem, ↓reduceIte]
theorem s_toAssocS (l : List Assoc) (hl : l.length ≤ 1048576) (hx : ∀ a ∈ l, a.a.sent.length ≤ 1048576 ∧ a.b.sent.length ≤ 1048576) : Spec Try.prog 126 0 [] [.r (.ro none (l.map Assoc.row))] (Plain fun r => r = .r (.ro none (l.map Assoc.row))) := by
  refine Spec.data1 (sz := 14) (Q := fun r hp _ _ => r = .sl 0 0 (l.map Assoc.row).length ∧ hget hp 0 = some (.row 14 (l.map Assoc.row))) ?_ (fun r hp nx gs h => ⟨0, h.1, h.2⟩)
  refine mk126 rfl fun c hP hm => ?_
  unfold pc126
  simp only [hm, go_sem, ↓reduceIte]
  simp only [Int.toNat_natCast]
  intro _
  refine ⟨⟨by omega, by omega⟩, ?_⟩
  refine lp_wpc (α := Nat) (fun i => ⟨[(0, .r (.ro none (l.map Assoc.row))), (3, .sl 0 0 l.length), (4, .i i)], [(0, .row 14 ((l.map Assoc.row).take i ++ List.replicate ((l.map Assoc.row).length - i) (noAssoc.cellsX .nil .nil)))], 1, []⟩)
    (fun i => i ≤ l.length) (fun i => l.length - i) 0 (Nat.zero_le _) (le_eq (by simp [Assoc.cellsX, noAssoc, noSide])) ?_
  intro i hi
  unfold pc126l0
  simp only [hm, go_sem, ↓reduceIte]
  intro _
  refine ⟨fun hlt => ?_, fun hge => ?_⟩
  · have hil : i < l.length := by omega
    obtain ⟨h1, h2⟩ := hx _ (List.getElem_mem hil)
    simp only [Int.toNat_natCast, getD_map hil, Assoc.row, Assoc.cellsX, hm, go_sem, ↓reduceIte]
    refine ⟨⟨by omega, by omega⟩, ?_⟩
    refine call_data (hP ▸ s_toAssocP l[i] h1 h2) rfl rfl ?_
    simp only [Assoc.ro, Assoc.av, go_sem, ↓reduceIte, hm, Int.toNat_natCast]
    repeat' first | refine And.intro ?_ ?_ | intro _
    all_goals first
      | omega
      | rfl
      | (simp; omega)
      | (refine ⟨i + 1, hil, by omega, le_eq ?_⟩
         have h1 := fill_set (M := l.map Assoc.row) (z := noAssoc.cellsX .nil .nil) (i := i) (by simpa using hil)
         simp only [List.getElem_map, Assoc.row, Assoc.cellsX, List.length_map] at h1
         try simp only [List.length_map, Assoc.cellsX]
         rw [wrap64 (by omega) (by omega), ← h1]
         rfl)
  · have : i = l.length := by omega
    subst this
    repeat' first | refine And.intro ?_ ?_ | intro _
    all_goals first
      | omega
      | rfl
      | (simp; done)
      | (simp [List.take_of_length_le]; done)
theorem s_toFindingS (l : List Fnd) (hl : l.length ≤ 1048576) : Spec Try.prog 127 0 [] [.r (.ro none (l.map Fnd.row))] (Plain fun r => r = .r (.ro none (l.map Fnd.row))) := by
  refine Spec.data1 (sz := 2) (Q := fun r hp _ _ => r = .sl 0 0 (l.map Fnd.row).length ∧ hget hp 0 = some (.row 2 (l.map Fnd.row))) ?_ (fun r hp nx gs h => ⟨0, h.1, h.2⟩)
  refine mk127 rfl fun c hP hm => ?_
  unfold pc127
  simp only [hm, go_sem, ↓reduceIte]
  simp only [Int.toNat_natCast]
  intro _
  refine ⟨⟨by omega, by omega⟩, ?_⟩
  refine lp_wpc (α := Nat) (fun i => ⟨[(0, .r (.ro none (l.map Fnd.row))), (3, .sl 0 0 l.length), (4, .i i)], [(0, .row 2 ((l.map Fnd.row).take i ++ List.replicate ((l.map Fnd.row).length - i) [.n .i64 0, .n .i64 0]))], 1, []⟩)
    (fun i => i ≤ l.length) (fun i => l.length - i) 0 (Nat.zero_le _) (le_eq (by simp)) ?_
  intro i hi
  unfold pc127l0
  simp only [hm, go_sem, ↓reduceIte]
  intro _
  refine ⟨fun hlt => ?_, fun hge => ?_⟩
  · have hil : i < l.length := by omega
    simp only [Int.toNat_natCast, getD_map hil, Fnd.row, hm, go_sem, ↓reduceIte]
    refine ⟨⟨by omega, by omega⟩, ?_⟩
    refine call_data (hP ▸ s_toFinding l[i]) rfl rfl ?_
    simp only [Fnd.av, go_sem, ↓reduceIte, hm, Int.toNat_natCast]
    repeat' first | refine And.intro ?_ ?_ | intro _
    all_goals first
      | omega
      | rfl
      | (simp; omega)
      | (refine ⟨i + 1, hil, by omega, le_eq ?_⟩
         have h1 := fill_set (M := l.map Fnd.row) (z := [.n .i64 0, .n .i64 0]) (i := i) (by simpa using hil)
         simp only [List.getElem_map, Fnd.row, List.length_map] at h1
         try simp only [List.length_map]
         rw [wrap64 (by omega) (by omega), ← h1]
         rfl)
  · have : i = l.length := by omega
    subst this
    repeat' first | refine And.intro ?_ ?_ | intro _
    all_goals first
      | omega
      | rfl
      | (simp; done)
      | (simp [List.take_of_length_le]; done)
theorem s_toMonitorP (m : Mon) (hl : m.list.length ≤ 1048576) (hf : m.found.length ≤ 1048576) (hx : ∀ a ∈ m.list, a.a.sent.length ≤ 1048576 ∧ a.b.sent.length ≤ 1048576) : Spec Try.prog 44 0 [] [m.ro] (fun r _ _ _ => r = m.ro) := by
  refine mk44 rfl fun c hP hm => ?_
  unfold pc44 Mon.ro
  simp only [hm, go_sem, ↓reduceIte]
  refine call_dataP (hP ▸ s_toAssocS m.list hl hx) rfl rfl ?_
  simp only [hm, go_sem, ↓reduceIte]
  refine call_dataP (hP ▸ s_toFindingS m.found hf) rfl rfl ?_
  simp only [hm, go_sem, ↓reduceIte]
/-- Equality with itself. -/
theorem s_eqAssoc (a : Assoc) : Spec Try.prog 55 0 [] [a.ro, a.ro] (fun r _ _ _ => r = .bo true) := by
  refine mk55 rfl fun c hP hm => ?_
  unfold pc55 Assoc.ro Assoc.av
  simp only [hm, go_sem, ↓reduceIte]
  refine call_pure (hP ▸ s_eqSide a.a) rfl rfl ?_
  simp only [hm, go_sem, ↓reduceIte]
  refine call_pure (hP ▸ s_eqSide a.b) rfl rfl ?_
  simp only [hm, go_sem, ↓reduceIte]
theorem s_eqFinding (a : Fnd) : Spec Try.prog 181 0 [] [a.av, a.av] (fun r _ _ _ => r = .bo true) := by
  refine mk181 rfl fun c hP hm => ?_
  unfold pc181 Fnd.av
  simp only [hm, go_sem, ↓reduceIte]
theorem s_eqAssocS (l : List Assoc) : Spec Try.prog 131 0 [] [.r (.ro none (l.map Assoc.row)), .r (.ro none (l.map Assoc.row))] (fun r _ _ _ => r = .bo true) := by
  refine mk131 rfl fun c hP hm => ?_
  unfold pc131
  simp only [hm, go_sem, ↓reduceIte]
  intro hlen _
  refine lp_wpc (α := Nat) (fun i => ⟨[(0, .r (.ro none (l.map Assoc.row))), (1, .r (.ro none (l.map Assoc.row))), (5, .i i)], [], 0, []⟩) (fun i => i ≤ l.length) (fun i => l.length - i) 0 (Nat.zero_le _) (by (refine le_ev [] ?_; simp only [hm, go_sem, ↓reduceIte]; first | done | rfl | exact ⟨rfl, rfl⟩)) ?_
  intro i hi
  unfold pc131l0
  rcases Nat.lt_or_ge i l.length with hil | hil
  · have hw : IntKind.i64.wrap ((i : Int) + 1) = ((i + 1 : Nat) : Int) := by rw [wrap64 (by omega) (by omega)]; omega
    simp only [hw, Int.toNat_natCast, getD_map hil, Assoc.row, Assoc.cellsX, hm, go_sem, ↓reduceIte]
    repeat' first | refine And.intro ?_ ?_ | intro _ | (refine call_pure (hP ▸ s_eqAssoc l[i]) rfl rfl ?_; simp only [hw, Int.toNat_natCast, getD_map hil, Assoc.row, Assoc.cellsX, hm, go_sem, ↓reduceIte])
    all_goals first
      | omega
      | rfl
      | (refine ⟨i + 1, hil, by omega, ?_⟩; (refine le_ev [] ?_; simp only [hm, go_sem, ↓reduceIte]; first | done | rfl | exact ⟨rfl, rfl⟩))
  · have : i = l.length := by omega
    subst this
    simp only [hm, go_sem, ↓reduceIte]
    repeat' first | refine And.intro ?_ ?_ | intro _
    all_goals first
      | omega
      | rfl
theorem s_eqFindingS (l : List Fnd) : Spec Try.prog 132 0 [] [.r (.ro none (l.map Fnd.row)), .r (.ro none (l.map Fnd.row))] (fun r _ _ _ => r = .bo true) := by
  refine mk132 rfl fun c hP hm => ?_
  unfold pc132
  simp only [hm, go_sem, ↓reduceIte]
  intro hlen _
  refine lp_wpc (α := Nat) (fun i => ⟨[(0, .r (.ro none (l.map Fnd.row))), (1, .r (.ro none (l.map Fnd.row))), (5, .i i)], [], 0, []⟩) (fun i => i ≤ l.length) (fun i => l.length - i) 0 (Nat.zero_le _) (by (refine le_ev [] ?_; simp only [hm, go_sem, ↓reduceIte]; first | done | rfl | exact ⟨rfl, rfl⟩)) ?_
  intro i hi
  unfold pc132l0
  rcases Nat.lt_or_ge i l.length with hil | hil
  · have hw : IntKind.i64.wrap ((i : Int) + 1) = ((i + 1 : Nat) : Int) := by rw [wrap64 (by omega) (by omega)]; omega
    simp only [hw, Int.toNat_natCast, getD_map hil, Fnd.row, hm, go_sem, ↓reduceIte]
    repeat' first | refine And.intro ?_ ?_ | intro _ | (refine call_pure (hP ▸ s_eqFinding l[i]) rfl rfl ?_; simp only [hw, Int.toNat_natCast, getD_map hil, Fnd.row, hm, go_sem, ↓reduceIte])
    all_goals first
      | omega
      | rfl
      | (refine ⟨i + 1, hil, by omega, ?_⟩; (refine le_ev [] ?_; simp only [hm, go_sem, ↓reduceIte]; first | done | rfl | exact ⟨rfl, rfl⟩))
  · have : i = l.length := by omega
    subst this
    simp only [hm, go_sem, ↓reduceIte]
    repeat' first | refine And.intro ?_ ?_ | intro _
    all_goals first
      | omega
      | rfl
theorem s_eqMonitor (m : Mon) : Spec Try.prog 46 0 [] [m.ro, m.ro] (fun r _ _ _ => r = .bo true) := by
  refine mk46 rfl fun c hP hm => ?_
  unfold pc46 Mon.ro
  simp only [hm, go_sem, ↓reduceIte]
  refine call_pure (hP ▸ s_eqAssocS m.list) rfl rfl ?_
  simp only [hm, go_sem, ↓reduceIte]
  refine call_pure (hP ▸ s_eqFindingS m.found) rfl rfl ?_
  simp only [hm, go_sem, ↓reduceIte]
end Go.Cap

/- Contracts: sizes of associations and monitors; monitors as arguments. -/
namespace Go.Cap
open Go Go.Proofs
set_option maxRecDepth 100000
set_option linter.unusedSimpArgs false
set_option linter.unusedVariables false
attribute [local irreducible] Call Run Spec Le

theorem szTexts_le : ∀ (l : List Int) (left : Int), (∀ n ∈ l, 0 ≤ n) → szTexts l left ≤ left ∨ szTexts l left = -1
  | [], left, _ => .inl (Int.le_refl _)
  | n :: l, left, hn => by
    simp only [szTexts]
    split
    · exact .inr rfl
    · rename_i h
      have h0 := hn n (by simp)
      have h1 := szText_le n left h0
      rcases szTexts_le l (szText n left) (fun m hm => hn m (by simp [hm])) with h2 | h2
      · rcases h1 with h1 | h1
        · exact .inl (by omega)
        · omega
      · exact .inr h2
theorem szDatas_le (l : List Data) (left : Int) : szDatas l left ≤ left ∨ szDatas l left = -1 := by
  unfold szDatas
  split
  · exact .inr rfl
  · have hn : ∀ n ∈ l.map (fun s => (s.text.length : Int)), 0 ≤ n := fun n hm => by
      obtain ⟨s, _, rfl⟩ := List.mem_map.1 hm; omega
    rcases szTexts_le _ (left - l.length) hn with h | h
    · exact .inl (by omega)
    · exact .inr h
/-- What a bound that holds says. -/
theorem szDatas_fit {l : List Data} {left : Int} (hl : left ≤ 1048576) (h : 0 ≤ szDatas l left) : l.length ≤ 1048576 ∧ ∀ s ∈ l, s.text.length ≤ 1048576 := by
  unfold szDatas at h
  split at h
  · omega
  · rename_i h1
    have hn : ∀ n ∈ l.map (fun s => (s.text.length : Int)), 0 ≤ n := fun n hm => by
      obtain ⟨s, _, rfl⟩ := List.mem_map.1 hm; omega
    have h2 := szTexts_spec _ _ hn h
    refine ⟨by omega, fun s hs => ?_⟩
    have := sum_mem _ hn s.text.length (List.mem_map.2 ⟨s, hs, rfl⟩)
    omega
/-- Every list and text may be as long as a slice. -/
def SLen (s : Side) : Prop := s.sent.length ≤ 9223372036854775807 ∧ ∀ d ∈ s.sent, d.text.length ≤ 9223372036854775807
def ALen (a : Assoc) : Prop := SLen a.a ∧ SLen a.b
def BFit (s : Side) : Prop := s.sent.length ≤ 1048576 ∧ ∀ d ∈ s.sent, d.text.length ≤ 1048576
theorem BFit.s {s : Side} (h : BFit s) : SFit s := ⟨by have := h.1; omega, fun d hd => by have := h.2 d hd; omega⟩
def szS (s : Side) (left : Int) : Int := if szDatas s.sent left < 0 then -1 else szDatas s.sent left
def szA (a : Assoc) (left : Int) : Int := if szS a.a left < 0 then -1 else if szS a.b (szS a.a left) < 0 then -1 else szS a.b (szS a.a left)
def szAs : List Assoc → Int → Int
  | [], left => left
  | a :: l, left => if szA a left < 0 then -1 else szAs l (szA a left)
def szAL (l : List Assoc) (left : Int) : Int := if left - l.length < 0 then -1 else szAs l (left - l.length)
def szM (m : Mon) (left : Int) : Int := if szAL m.list left < 0 then -1 else if szAL m.list left - m.found.length < 0 then -1 else szAL m.list left - m.found.length
theorem szS_le (s : Side) (left : Int) : szS s left ≤ left ∨ szS s left = -1 := by
  unfold szS; split
  · exact .inr rfl
  · exact szDatas_le _ _
theorem szA_le (a : Assoc) (left : Int) : szA a left ≤ left ∨ szA a left = -1 := by
  have h1 := szS_le a.a left
  have h2 := szS_le a.b (szS a.a left)
  unfold szA
  split
  · exact .inr rfl
  · split
    · exact .inr rfl
    · omega
theorem szS_fit {s : Side} {left : Int} (hl : left ≤ 1048576) (h : 0 ≤ szS s left) : BFit s := by
  unfold szS at h
  split at h
  · omega
  · exact szDatas_fit hl h
theorem szA_fit {a : Assoc} {left : Int} (hl : left ≤ 1048576) (h : 0 ≤ szA a left) : BFit a.a ∧ BFit a.b := by
  unfold szA at h
  split at h
  · omega
  · rename_i h1
    split at h
    · omega
    · have := szS_le a.a left
      exact ⟨szS_fit hl (by omega), szS_fit (left := szS a.a left) (by omega) (by omega)⟩
theorem szAs_drop {l : List Assoc} {i : Nat} (h : i < l.length) (left : Int) : szAs (l.drop i) left = if szA l[i] left < 0 then -1 else szAs (l.drop (i + 1)) (szA l[i] left) := by
  rw [List.drop_eq_getElem_cons h]; rfl
theorem szAs_fit : ∀ {l : List Assoc} {left : Int}, left ≤ 1048576 → 0 ≤ szAs l left → ∀ a ∈ l, BFit a.a ∧ BFit a.b
  | [], left, _, _, a, h => by cases h
  | x :: l, left, hl, h, a, ha => by
    simp only [szAs] at h
    split at h
    · omega
    · rename_i h1
      have := szA_le x left
      rcases List.mem_cons.1 ha with rfl | ha
      · exact szA_fit hl (by omega)
      · exact szAs_fit (by omega) h a ha
theorem szAs_le : ∀ (l : List Assoc) (left : Int), szAs l left ≤ left ∨ szAs l left = -1
  | [], left => .inl (Int.le_refl _)
  | a :: l, left => by
    simp only [szAs]
    split
    · exact .inr rfl
    · have h1 := szA_le a left
      rcases szAs_le l (szA a left) with h2 | h2
      · exact .inl (by omega)
      · exact .inr h2
theorem szM_fit {m : Mon} (h : 0 ≤ szM m 1048576) : m.list.length ≤ 1048576 ∧ m.found.length ≤ 1048576 ∧ ∀ a ∈ m.list, BFit a.a ∧ BFit a.b := by
  unfold szM szAL at h
  by_cases h0 : (1048576 : Int) - m.list.length < 0
  · simp [h0] at h
  · simp only [h0, if_false] at h
    have := szAs_le m.list (1048576 - m.list.length)
    split at h
    · omega
    · rename_i h1
      split at h
      · omega
      · exact ⟨by omega, by omega, szAs_fit (left := 1048576 - m.list.length) (by omega) (by omega)⟩
theorem BFit.m {m : Mon} (h : 0 ≤ szM m 1048576) : MFit m := by
  obtain ⟨h1, h2, h3⟩ := szM_fit h
  exact ⟨by omega, by omega, fun a ha => ⟨(h3 a ha).1.s, (h3 a ha).2.s⟩⟩
theorem s_szSideP (t : Side) (left : Int) (h : 0 ≤ left ∧ left ≤ 1048576) (hs : SLen t) : Spec Try.prog 134 0 [] [t.ro, .i left] (fun r _ _ _ => r = .i (szS t left)) :=
  s_szSide t left h (by have := hs.1; omega) (fun s hm => by have := hs.2 s hm; omega)
theorem s_szAssoc (a : Assoc) (left : Int) (h : 0 ≤ left ∧ left ≤ 1048576) (hs : ALen a) : Spec Try.prog 49 0 [] [a.ro, .i left] (fun r _ _ _ => r = .i (szA a left)) := by
  refine mk49 rfl fun c hP hm => ?_
  unfold pc49 Assoc.ro Assoc.av
  simp only [hm, go_sem, ↓reduceIte]
  refine call_pure (hP ▸ s_szSideP a.a left h hs.1) rfl rfl ?_
  have h1 := szS_le a.a left
  unfold szA
  simp only [hm, go_sem, ↓reduceIte]
  repeat' first | refine And.intro ?_ ?_ | intro _
  all_goals first
    | (rename_i hx; rw [if_pos hx]; done)
    | (rename_i hx; rw [if_neg (by omega)]
       refine call_pure (hP ▸ s_szSideP a.b (szS a.a left) ⟨by omega, by omega⟩ hs.2) rfl rfl ?_
       simp only [hm, go_sem, ↓reduceIte]
       repeat' first | refine And.intro ?_ ?_ | intro _
       all_goals first
         | (rename_i hy; rw [if_pos hy]; done)
         | (rename_i hy; rw [if_neg (by omega)]; done)
         )
theorem s_szAssocS (l : List Assoc) (left : Int) (h : 0 ≤ left ∧ left ≤ 1048576) (hl : l.length ≤ 9223372036854775807) (hs : ∀ a ∈ l, ALen a) : Spec Try.prog 119 0 [] [.r (.ro none (l.map Assoc.row)), .i left] (fun r _ _ _ => r = .i (szAL l left)) := by
  refine mk119 rfl fun c hP hm => ?_
  unfold pc119
  simp only [hm, go_sem, ↓reduceIte]
  intro _
  rw [wrap64 (by omega) (by omega)]
  unfold szAL
  refine ⟨fun hh => ?_, fun hh => ?_⟩
  · rw [if_pos hh]
  · rw [if_neg (by omega)]
    refine lp_wpc (α := Nat × Int) (fun y => ⟨[(0, .r (.ro none (l.map Assoc.row))), (1, .i y.2), (5, .i y.1)], [], 0, []⟩)
      (fun y => y.1 ≤ l.length ∧ 0 ≤ y.2 ∧ y.2 ≤ 1048576 ∧ szAs (l.drop y.1) y.2 = szAs l (left - l.length)) (fun y => l.length - y.1) (0, left - l.length)
      ⟨Nat.zero_le _, by omega, by omega, rfl⟩ (Le.refl _) ?_
    rintro ⟨i, x⟩ ⟨hi, hx0, hx1, hx⟩
    simp only at hi hx0 hx1 hx
    unfold pc119l0
    rcases Nat.lt_or_ge i l.length with hil | hil
    · have hw : IntKind.i64.wrap ((i : Int) + 1) = ((i + 1 : Nat) : Int) := by rw [wrap64 (by omega) (by omega)]; omega
      rw [szAs_drop hil] at hx
      have hle := szA_le l[i] x
      simp only [hw, Int.toNat_natCast, getD_map hil, Assoc.row, Assoc.cellsX, hm, go_sem, ↓reduceIte]
      repeat' first | refine And.intro ?_ ?_ | intro _ | (refine call_pure (hP ▸ s_szAssoc l[i] x ⟨hx0, hx1⟩ (hs _ (List.getElem_mem hil))) rfl rfl ?_; simp only [hw, Int.toNat_natCast, getD_map hil, Assoc.row, Assoc.cellsX, hm, go_sem, ↓reduceIte])
      all_goals first
        | omega
        | rfl
        | (rename_i hy; rw [if_pos hy] at hx; rw [← hx]; done)
        | (rename_i hy
           rw [if_neg (by omega)] at hx
           refine ⟨(i + 1, szA l[i] x), ⟨hil, ?_, ?_, hx⟩, ?_, Le.refl _⟩
           · simp only; omega
           · simp only; omega
           · simp only; omega)
    · have : i = l.length := by omega
      subst this
      rw [List.drop_eq_nil_of_le (Nat.le_refl _)] at hx
      simp only [hm, go_sem, ↓reduceIte]
      repeat' first | refine And.intro ?_ ?_ | intro _
      all_goals first
        | omega
        | (rw [← hx]; rfl)
theorem s_szFindingS (l : List Fnd) (left : Int) (h : 0 ≤ left ∧ left ≤ 1048576) (hl : l.length ≤ 9223372036854775807) : Spec Try.prog 120 0 [] [.r (.ro none (l.map Fnd.row)), .i left] (fun r _ _ _ => r = .i (if left - l.length < 0 then -1 else left - l.length)) := by
  refine mk120 rfl fun c hP hm => ?_
  unfold pc120
  simp only [hm, go_sem, ↓reduceIte]
  intro _
  rw [wrap64 (by omega) (by omega)]
  refine ⟨fun h => ?_, fun h => ?_⟩
  · rw [if_pos h]
  · rw [if_neg (by omega)]
theorem szAL_le (l : List Assoc) (left : Int) : szAL l left ≤ left ∨ szAL l left = -1 := by
  unfold szAL
  split
  · exact .inr rfl
  · have := szAs_le l (left - l.length); omega
theorem s_szMonitor (m : Mon) (left : Int) (h : 0 ≤ left ∧ left ≤ 1048576) (hl : m.list.length ≤ 9223372036854775807) (hf : m.found.length ≤ 9223372036854775807) (hs : ∀ a ∈ m.list, ALen a) : Spec Try.prog 42 0 [] [m.ro, .i left] (fun r _ _ _ => r = .i (szM m left)) := by
  refine mk42 rfl fun c hP hm => ?_
  unfold pc42 Mon.ro
  simp only [hm, go_sem, ↓reduceIte]
  refine call_pure (hP ▸ s_szAssocS m.list left h hl hs) rfl rfl ?_
  have h1 := szAL_le m.list left
  unfold szM
  simp only [hm, go_sem, ↓reduceIte]
  repeat' first | refine And.intro ?_ ?_ | intro _
  all_goals first
    | (rename_i hx; rw [if_pos hx]; done)
    | (rename_i hx; rw [if_neg (by omega)]
       refine call_pure (hP ▸ s_szFindingS m.found (szAL m.list left) ⟨by omega, by omega⟩ hf) rfl rfl ?_
       simp only [hm, go_sem, ↓reduceIte]
       repeat' first | refine And.intro ?_ ?_ | intro _
       all_goals first
         | (rename_i hy; split at hy <;> first | omega | (rename_i hz; rw [if_pos hz]; done) | (rename_i hz; rw [if_neg hz]; done))
         | (split; rfl; rfl)
         )
abbrev assocRow : List CT := [.i .i64, .i .i64, .i .i64, .b, .i .i64, .i .i64, .i .i64, .sl dataRow, .i .i64, .i .i64, .i .i64, .i .i64, .sl dataRow, .i .i64]
abbrev fndRow : List CT := [.i .i64, .i .i64]
abbrev monRow : List CT := [.i .i64, .sl assocRow, .sl fndRow]
theorem assoc_of (r : List RV) (h : RowOk assocRow r) : ∃ a : Assoc, r = a.row ∧ ALen a := by
  obtain ⟨x0, r, rfl, h0, h⟩ := rowOk_cons h
  obtain ⟨x1, r, rfl, h1, h⟩ := rowOk_cons h
  obtain ⟨x2, r, rfl, h2, h⟩ := rowOk_cons h
  obtain ⟨x3, r, rfl, h3, h⟩ := rowOk_cons h
  obtain ⟨x4, r, rfl, h4, h⟩ := rowOk_cons h
  obtain ⟨x5, r, rfl, h5, h⟩ := rowOk_cons h
  obtain ⟨x6, r, rfl, h6, h⟩ := rowOk_cons h
  obtain ⟨x7, r, rfl, h7, h⟩ := rowOk_cons h
  obtain ⟨x8, r, rfl, h8, h⟩ := rowOk_cons h
  obtain ⟨x9, r, rfl, h9, h⟩ := rowOk_cons h
  obtain ⟨x10, r, rfl, h10, h⟩ := rowOk_cons h
  obtain ⟨x11, r, rfl, h11, h⟩ := rowOk_cons h
  obtain ⟨x12, r, rfl, h12, h⟩ := rowOk_cons h
  obtain ⟨x13, r, rfl, h13, h⟩ := rowOk_cons h
  obtain rfl := rowOk_nil h
  obtain ⟨n0, rfl, _⟩ := okc_i h0
  obtain ⟨n1, rfl, _⟩ := okc_i h1
  obtain ⟨n2, rfl, _⟩ := okc_i h2
  obtain ⟨n3, rfl⟩ := okc_b h3
  obtain ⟨n4, rfl, _⟩ := okc_i h4
  obtain ⟨n5, rfl, _⟩ := okc_i h5
  obtain ⟨n6, rfl, _⟩ := okc_i h6
  obtain ⟨L7, rfl, hL7, hr7⟩ := okc_sl h7
  obtain ⟨n8, rfl, _⟩ := okc_i h8
  obtain ⟨n9, rfl, _⟩ := okc_i h9
  obtain ⟨n10, rfl, _⟩ := okc_i h10
  obtain ⟨n11, rfl, _⟩ := okc_i h11
  obtain ⟨L12, rfl, hL12, hr12⟩ := okc_sl h12
  obtain ⟨n13, rfl, _⟩ := okc_i h13
  obtain ⟨l, rfl, hl⟩ := rows_of data_of hr7
  obtain ⟨k, rfl, hk⟩ := rows_of data_of hr12
  have e : maxLen = 9223372036854775807 := by decide
  rw [e] at hL7 hL12
  exact ⟨⟨n0, n1, n2, n3, ⟨n4, n5, n6, l, n8⟩, ⟨n9, n10, n11, k, n13⟩⟩, rfl, ⟨by simpa using hL7, fun d hd => by have := hl d hd; omega⟩, ⟨by simpa using hL12, fun d hd => by have := hk d hd; omega⟩⟩
theorem fnd_of (r : List RV) (h : RowOk fndRow r) : ∃ f : Fnd, r = f.row ∧ True := by
  obtain ⟨x0, r, rfl, h0, h⟩ := rowOk_cons h
  obtain ⟨x1, r, rfl, h1, h⟩ := rowOk_cons h
  obtain rfl := rowOk_nil h
  obtain ⟨n0, rfl, _⟩ := okc_i h0
  obtain ⟨n1, rfl, _⟩ := okc_i h1
  exact ⟨⟨n0, n1⟩, rfl, trivial⟩
theorem mon_of {xs : List RV} (h : RowOk monRow xs) : ∃ m : Mon, AV.agg (xs.map .r) = m.ro ∧ m.list.length ≤ 9223372036854775807 ∧ m.found.length ≤ 9223372036854775807 ∧ ∀ a ∈ m.list, ALen a := by
  obtain ⟨x0, r, rfl, h0, h⟩ := rowOk_cons h
  obtain ⟨x1, r, rfl, h1, h⟩ := rowOk_cons h
  obtain ⟨x2, r, rfl, h2, h⟩ := rowOk_cons h
  obtain rfl := rowOk_nil h
  obtain ⟨n0, rfl, _⟩ := okc_i h0
  obtain ⟨L1, rfl, hL1, hr1⟩ := okc_sl h1
  obtain ⟨L2, rfl, hL2, hr2⟩ := okc_sl h2
  obtain ⟨l, rfl, hl⟩ := rows_of assoc_of hr1
  obtain ⟨k, rfl, _⟩ := rows_of fnd_of hr2
  have e : maxLen = 9223372036854775807 := by decide
  rw [e] at hL1 hL2
  exact ⟨⟨n0, l, k⟩, rfl, by simpa using hL1, by simpa using hL2, hl⟩
end Go.Cap
