/- Contracts of functions, text A. -/
import Derived.Test.YtggbmeiomhbmpaaGreatEngC
import Derived.Test.YtggbmeiomhbmpaaGreatPc
open Go Go.Proofs
set_option maxRecDepth 100000
set_option linter.unusedSimpArgs false
set_option linter.unusedVariables false
namespace Go.Cap
attribute [local irreducible] Call Run Spec Le
def serialB (x : Int) : Bool := decide (0 ≤ x ∧ x < 65536)
theorem bo_inj {a b : Bool} (h : a = b) : AV.r (.b a) = AV.bo b := by rw [h]
def inB (n lo hi : Int) : Bool := decide (lo ≤ n ∧ n ≤ hi)
structure Say where
  byB : Bool
  stream : Int
  loose : Bool
  text : List UInt8
def Say.row (s : Say) : List RV := [.b s.byB, .n .i64 s.stream, .b s.loose, .s s.text]
def Say.av (s : Say) : AV := .agg [.bo s.byB, .i s.stream, .bo s.loose, .st s.text]
structure Init where
  tag : Int
  window : Int
  streams : Int
  tsn : Int
def Init.av (x : Init) : AV := .agg [.i x.tag, .i x.window, .i x.streams, .i x.tsn]
def initB (x : Init) : Bool := decide (1 ≤ x.tag ∧ x.tag ≤ 4294967295 ∧ 1 ≤ x.streams ∧ x.streams ≤ 4) && serialB x.window && serialB x.tsn
structure Talk where
  fr : Int
  to : Int
  a : Init
  b : Init
  size : Int
  says : List Say
def Talk.av (t : Talk) (x : AV) : AV := .agg [.i t.fr, .i t.to, .i t.a.tag, .i t.a.window, .i t.a.streams, .i t.a.tsn, .i t.b.tag, .i t.b.window, .i t.b.streams, .i t.b.tsn, .i t.size, x]
abbrev Talk.ro (t : Talk) : AV := t.av (.r (.ro none (t.says.map Say.row)))
theorem s_serialOk (x : Int) : Spec Tryz.prog 89 0 [] [.i x] (fun r _ _ _ => r = .bo (serialB x)) := by
  refine mk89 rfl fun c hP hm => ?_
  unfold pc89
  simp only [go_sem, ↓reduceIte]
  repeat' first | refine And.intro ?_ ?_ | intro _
  all_goals (simp [serialB]; try omega)
theorem c_serialOk {c : Cx} (hP : c.P = Tryz.prog) {x : Int} {s : St} {K : AV → St → Prop} (h : K (.bo (serialB x)) s) : Call c 89 [.i x] s K :=
  call_pure (hP ▸ s_serialOk x) rfl rfl h
theorem s_l6In (x lo hi : Int) : Spec Tryz.prog 60 0 [] [.i x, .i lo, .i hi] (fun r _ _ _ => r = .bo (inB x lo hi)) := by
  refine mk60 rfl fun c hP hm => ?_
  unfold pc60
  simp only [go_sem, ↓reduceIte]
  repeat' first | refine And.intro ?_ ?_ | intro _
  all_goals (simp [inB]; try omega)
theorem c_l6In {c : Cx} (hP : c.P = Tryz.prog) {x lo hi : Int} {s : St} {K : AV → St → Prop} (h : K (.bo (inB x lo hi)) s) : Call c 60 [.i x, .i lo, .i hi] s K :=
  call_pure (hP ▸ s_l6In x lo hi) rfl rfl h
theorem s_l3Ok (x : Int) : Spec Tryz.prog 97 0 [] [.i x] (fun r _ _ _ => r = .bo (serialB x)) := by
  refine mk97 rfl fun c hP hm => ?_
  unfold pc97
  simp only [go_sem, ↓reduceIte]
  refine c_l6In hP ?_
  simp only [go_sem, ↓reduceIte]
  rw [show serialB x = inB x 0 65535 by simp only [serialB, inB, decide_eq_decide]; omega]
theorem c_l3Ok {c : Cx} (hP : c.P = Tryz.prog) {x : Int} {s : St} {K : AV → St → Prop} (h : K (.bo (serialB x)) s) : Call c 97 [.i x] s K :=
  call_pure (hP ▸ s_l3Ok x) rfl rfl h
theorem s_initOk (x : Init) : Spec Tryz.prog 70 0 [] [x.av] (fun r _ _ _ => r = .bo (initB x)) := by
  obtain ⟨a, b, d, e⟩ := x
  refine mk70 rfl fun c hP hm => ?_
  unfold pc70 Init.av
  simp only [go_sem, ↓reduceIte]
  repeat' first | refine And.intro ?_ ?_ | intro _ | (refine c_serialOk hP ?_; simp only [go_sem, ↓reduceIte])
  all_goals (simp [initB, *]; try omega)
theorem s_l12Init (x : Init) : Spec Tryz.prog 79 0 [] [x.av] (fun r _ _ _ => r = .bo (initB x)) := by
  obtain ⟨a, b, d, e⟩ := x
  refine mk79 rfl fun c hP hm => ?_
  unfold pc79 Init.av
  simp only [go_sem, ↓reduceIte]
  repeat' first | refine And.intro ?_ ?_ | intro _ | (refine c_l6In hP ?_; simp only [go_sem, ↓reduceIte]) | (refine c_l3Ok hP ?_; simp only [go_sem, ↓reduceIte])
  all_goals (simp [initB, inB, serialB] at *; try omega)
def szText (n left : Int) : Int := if left - n < 0 then -1 else left - n
def szTexts : List Int → Int → Int
  | [], left => left
  | n :: l, left => if szText n left < 0 then -1 else szTexts l (szText n left)
theorem szTexts_drop {l : List Int} {i : Nat} (h : i < l.length) (left : Int) : szTexts (l.drop i) left = if szText l[i] left < 0 then -1 else szTexts (l.drop (i + 1)) (szText l[i] left) := by
  rw [List.drop_eq_getElem_cons h]; rfl
theorem szText_le (n left : Int) (hn : 0 ≤ n) : szText n left ≤ left ∨ szText n left = -1 := by
  unfold szText; split
  · exact .inr rfl
  · exact .inl (by omega)
theorem szTexts_spec : ∀ (l : List Int) (left : Int), (∀ n ∈ l, 0 ≤ n) → 0 ≤ szTexts l left → left - szTexts l left = l.sum
  | [], left, _, _ => by simp [szTexts]
  | n :: l, left, hn, h => by
    simp only [szTexts] at h ⊢
    split at h
    · omega
    · rename_i h1
      rw [if_neg h1]
      have := szTexts_spec l (szText n left) (fun n hm => hn n (List.mem_cons_of_mem _ hm)) h
      have h2 : szText n left = left - n := by
        unfold szText at h1 ⊢; split
        · rename_i h3; rw [if_pos h3] at h1; omega
        · rfl
      rw [h2] at this ⊢
      simp only [List.sum_cons]; omega
theorem sum_mem : ∀ (l : List Int), (∀ n ∈ l, 0 ≤ n) → ∀ n ∈ l, n ≤ l.sum
  | [], _, n, h => by cases h
  | x :: l, hl, n, h => by
    have h0 := hl x (by simp)
    have hp : ∀ (l : List Int), (∀ n ∈ l, 0 ≤ n) → 0 ≤ l.sum := by
      intro l
      induction l with
      | nil => intro _; simp
      | cons y l ih => intro h; have := h y (by simp); have := ih (fun n hn => h n (List.mem_cons_of_mem _ hn)); simp only [List.sum_cons]; omega
    have h1 := hp l (fun n hn => hl n (List.mem_cons_of_mem _ hn))
    rcases List.mem_cons.1 h with rfl | h
    · simp only [List.sum_cons]; omega
    · have := sum_mem l (fun n hn => hl n (List.mem_cons_of_mem _ hn)) n h
      simp only [List.sum_cons]; omega
def sayOk (t : Talk) (s : Say) : Bool := inB s.text.length 1 60 && (if s.byB then inB s.stream 0 (t.b.streams - 1) else inB s.stream 0 (t.a.streams - 1))
def talkHead (t : Talk) : Bool := inB t.fr 1 65535 && inB t.to 1 65535 && !(t.fr == t.to) && initB t.a && initB t.b && inB t.size 1 20
def manyOf (t : Talk) (s : Say) : Int := (s.text.length + t.size - 1) / t.size
def talkLoop (t : Talk) : List Say → Int → Int → Bool
  | [], a, b => decide (a ≤ 12) && decide (b ≤ 12)
  | s :: l, a, b => sayOk t s && (if s.byB then talkLoop t l a (b + manyOf t s) else talkLoop t l (a + manyOf t s) b)
def talkB (t : Talk) : Bool := talkHead t && decide (t.says.length ≤ 4) && talkLoop t t.says 0 0
end Go.Cap
namespace Go.Cap
def l3 (a n : Int) : Int := (a + n) % 65536
structure Data where
  tsn : Int
  stream : Int
  ssn : Int
  first : Bool
  last : Bool
  loose : Bool
  text : List UInt8
def Data.row (d : Data) : List RV := [.n .i64 d.tsn, .n .i64 d.stream, .n .i64 d.ssn, .b d.first, .b d.last, .b d.loose, .s d.text]
def Data.av (d : Data) : AV := .agg [.i d.tsn, .i d.stream, .i d.ssn, .bo d.first, .bo d.last, .bo d.loose, .st d.text]
def manyN (n sz : Nat) : Nat := (n + sz - 1) / sz
def part (sz : Nat) (tsn : Int) (ssn : Int) (s : Say) (j : Nat) : Data := ⟨l3 tsn j, s.stream, ssn, decide (j = 0), decide (s.text.length ≤ (j + 1) * sz), s.loose, (s.text.take ((j + 1) * sz)).drop (j * sz)⟩
def chunks (sz : Nat) (tsn ssn : Int) (s : Say) : List Data := (List.range (manyN s.text.length sz)).map (part sz tsn ssn s)
def ssnIn (out : List Data) (stream : Int) : Nat := out.countP fun d => d.first && !d.loose && d.stream == stream
def ssnOf (out : List Data) (s : Say) : Int := if s.loose then 0 else ssnIn out s.stream
def nextParts (sz : Nat) (tsn : Int) (out : List Data) (s : Say) : List Data := chunks sz (l3 tsn out.length) (ssnOf out s) s
def Talk.tsn (t : Talk) (byB : Bool) : Int := if byB then t.b.tsn else t.a.tsn
theorem l3_range (a n : Int) : 0 ≤ l3 a n ∧ l3 a n < 65536 := by unfold l3; omega
theorem ssnIn_app (a b : List Data) (x : Int) : ssnIn (a ++ b) x = ssnIn a x + ssnIn b x := by simp [ssnIn, List.countP_append]
theorem take_get {α : Type} {l : List α} {i : Nat} (h : i < l.length) : l.take (i + 1) = l.take i ++ [l[i]] := by rw [List.take_add_one, List.getElem?_eq_getElem h]; rfl
theorem ssnIn_take {l : List Data} {i : Nat} (h : i < l.length) (x : Int) : ssnIn (l.take (i + 1)) x = ssnIn (l.take i) x + (if l[i].first = true ∧ l[i].loose = false ∧ l[i].stream = x then 1 else 0) := by
  rw [take_get h, ssnIn_app]
  congr 1
  simp only [ssnIn, List.countP_cons, List.countP_nil]
  cases l[i].first <;> cases l[i].loose <;> simp
theorem ssnIn_le (l : List Data) (x : Int) : ssnIn l x ≤ l.length := List.countP_le_length
end Go.Cap
namespace Go.Cap
attribute [local irreducible] Call Run Spec Le
theorem tmod64k (n : Int) : -65536 < n.tmod 65536 ∧ n.tmod 65536 < 65536 ∧ (n.tmod 65536 - n) % 65536 = 0 := by
  rcases Int.lt_or_le n 0 with h | h
  · have e : n.tmod 65536 = -((-n).tmod 65536) := by rw [← Int.neg_tmod, Int.neg_neg]
    rw [e, Int.tmod_eq_emod_of_nonneg (by omega)]; omega
  · rw [Int.tmod_eq_emod_of_nonneg h]; omega
theorem s_l3Add (a n : Int) (ha : 0 ≤ a ∧ a < 65536) : Spec Tryz.prog 103 0 [] [.i a, .i n] (fun r _ _ _ => r = .i (l3 a n)) := by
  refine mk103 rfl fun c hP hm => ?_
  unfold pc103
  simp only [go_sem, ↓reduceIte]
  obtain ⟨h1, h2, h3⟩ := tmod64k n
  simp (disch := omega) only [wrap64]
  rw [Int.tmod_eq_emod_of_nonneg (by omega)]
  unfold l3
  congr 2; omega
theorem s_SerialAdd (a n : Int) : Spec Tryz.prog 107 0 [] [.i a, .i n] (fun r _ _ _ => r = .i (if serialB a then l3 a n else -1)) := by
  refine mk107 rfl fun c hP hm => ?_
  unfold pc107
  simp only [go_sem, ↓reduceIte]
  refine c_serialOk hP ?_
  simp only [go_sem, ↓reduceIte]
  refine ⟨fun h => ?_, fun h => ?_⟩
  · rw [h]; rfl
  · have ha : 0 ≤ a ∧ a < 65536 := by simpa [serialB] using h
    obtain ⟨h1, h2, h3⟩ := tmod64k n
    have h4 := tmod64k (a + n.tmod 65536)
    simp (disch := omega) only [wrap64]
    rw [Int.tmod_eq_emod_of_nonneg (a := (a + n.tmod 65536).tmod 65536 + 65536) (by omega), h, if_pos rfl]
    unfold l3
    congr 2; omega
theorem dataClosed (l : List Data) : closL2 (l.map Data.row) := closL2_map (fun s x hx => by
  simp only [Data.row, List.mem_cons, List.not_mem_nil, or_false] at hx
  rcases hx with rfl | rfl | rfl | rfl | rfl | rfl | rfl <;> rfl) l
theorem s_l31Ssn (l : List Data) (x : Int) (hl : l.length ≤ 4000000) : Spec Tryz.prog 122 0 [] [.r (.ro none (l.map Data.row)), .i x] (fun r _ _ _ => r = .i (ssnIn l x)) := by
  refine mk122 rfl fun c hP hm => ?_
  unfold pc122
  simp only [go_sem, ↓reduceIte]
  refine lp_wpc (α := Nat) (fun i => ⟨[(0, .r (.ro none (l.map Data.row))), (1, .i x), (5, .i (ssnIn (l.take i) x)), (6, .i i)], [], 0, []⟩) (fun i => i ≤ l.length) (fun i => l.length - i) 0 (Nat.zero_le _) (le_eq (by simp [ssnIn])) ?_
  intro i hi
  unfold pc122l0
  simp only [go_sem, ↓reduceIte]
  intro _
  refine ⟨fun hlt => ?_, fun hge => ?_⟩
  · have hil : i < l.length := by omega
    have hs := ssnIn_take hil x
    have hle := ssnIn_le (l.take i) x
    simp only [List.length_take] at hle
    simp only [Int.toNat_natCast, getD_map hil, Data.row,go_sem,↓reduceIte]
    generalize hd : l[i] = d at hs
    obtain ⟨a, b, e, f, g, h, k⟩ := d
    simp only at hs
    simp only [Data.row,go_sem,↓reduceIte]
    refine ⟨⟨by omega, by omega⟩, ?_⟩
    have e1 : IntKind.i64.wrap ((i : Int) + 1) = ((i + 1 : Nat) : Int) := by rw [wrap64 (by omega) (by omega)]; omega
    have e2 : IntKind.i64.wrap ((ssnIn (l.take i) x : Int) + 1) = ((ssnIn (l.take i) x + 1 : Nat) : Int) := by rw [wrap64 (by omega) (by omega)]; omega
    rw [e1, e2]
    repeat' first | refine And.intro ?_ ?_ | intro _
    all_goals first
      | omega
      | (simp only [*, if_true, if_false, Bool.false_eq_true, and_self, true_and, false_and, and_false, reduceCtorEq] at hs
         exact ⟨i + 1, hil, by omega, le_eq (by rw [hs] <;> rfl)⟩)
  · have : i = l.length := by omega
    subst this
    simp
end Go.Cap
namespace Go.Cap
def cnt (f : List Data) : List AV := [.i (ssnIn f 0), .i (ssnIn f 1), .i (ssnIn f 2), .i (ssnIn f 3)]
def cnts (f g : List Data) : List AV := [.i (ssnIn f 0), .i (ssnIn f 1), .i (ssnIn f 2), .i (ssnIn f 3), .i (ssnIn g 0), .i (ssnIn g 1), .i (ssnIn g 2), .i (ssnIn g 3)]
end Go.Cap
namespace Go.Cap
attribute [local irreducible] Call Run Spec Le
@[go_sem] theorem cnts_len (f g : List Data) : (cnts f g).length = 8 := (rfl)
def byteRow (b : UInt8) : List RV := [.n .u8 b.toNat]
def rdB (code : List UInt8) (p : Int) : Blk := .var [.r (.ro none (code.map byteRow)), .i p]
@[go_sem] theorem renB_rd (f : Nat → Nat) (code : List UInt8) (p : Int) : renB f (rdB code p) = rdB code p := (rfl)
@[go_sem] theorem killH_rd (b j : Nat) (code : List UInt8) (p : Int) (l : List (Nat × Blk)) : killH b ((j, rdB code p) :: l) = (j, rdB code p) :: killH b l := (rfl)
theorem mid_get {α : Type} {A B : List α} {d x : α} {i : Nat} (h : A.length = i) : (A ++ x :: B).getD i d = x := by
  rw [List.getD_eq_getElem?_getD, List.getElem?_append_right (by omega), h, Nat.sub_self]; rfl
theorem mid_set {α : Type} {A B : List α} {x y : α} {i : Nat} (h : A.length = i) : (A ++ x :: B).set i y = A ++ y :: B := by
  rw [List.set_append_right _ _ (by omega), h, Nat.sub_self]; rfl
theorem mid_len {α : Type} (A B : List α) (x : α) : (A ++ x :: B).length = A.length + (B.length + 1) := by simp
theorem mid_drop {α : Type} {f : α → List RV} {l : List α} {i : Nat} (h : i < l.length) : (l.drop i).map f = f l[i] :: (l.drop (i + 1)).map f := by rw [List.drop_eq_getElem_cons h]; rfl
structure Msg where
  stream : Int
  ssn : Int
  loose : Bool
  text : List UInt8
def Msg.row (d : Msg) : List RV := [.n .i64 d.stream, .n .i64 d.ssn, .b d.loose, .s d.text]
def Msg.av (d : Msg) : AV := .agg [.i d.stream, .i d.ssn, .bo d.loose, .st d.text]
def dataB (d : Data) : Bool := serialB d.tsn && serialB d.stream && serialB d.ssn && decide (1 ≤ d.text.length ∧ d.text.length ≤ 20)
def likeB (a b : Data) : Bool := a.stream == b.stream && a.ssn == b.ssn && a.loose == b.loose
theorem like_comm (a b : Data) : likeB a b = likeB b a := by
  unfold likeB
  rw [Bool.beq_comm (a := a.loose), BEq.comm (a := a.stream), BEq.comm (a := a.ssn)]
theorem s_dataOk (d : Data) (h : d.text.length ≤ 9223372036854775807) : Spec Tryz.prog 106 0 [] [d.av] (fun r _ _ _ => r = .bo (dataB d)) := by
  refine mk106 rfl fun c hP hm => ?_
  unfold pc106 Data.av
  simp only [go_sem, ↓reduceIte]
  repeat' first | refine And.intro ?_ ?_ | intro _ | (refine c_serialOk hP ?_; simp only [go_sem, ↓reduceIte])
  all_goals (apply bo_inj; rw [Bool.eq_iff_iff]; simp [dataB, *] <;> omega)
theorem s_l12Data (d : Data) (h : d.text.length ≤ 9223372036854775807) : Spec Tryz.prog 102 0 [] [d.av] (fun r _ _ _ => r = .bo (dataB d)) := by
  refine mk102 rfl fun c hP hm => ?_
  unfold pc102 Data.av
  simp only [go_sem, ↓reduceIte]
  repeat' first | refine And.intro ?_ ?_ | intro _ | (refine c_l6In hP ?_; simp only [go_sem, ↓reduceIte]) | (refine c_l3Ok hP ?_; simp only [go_sem, ↓reduceIte])
  all_goals (apply bo_inj; rw [Bool.eq_iff_iff]; simp [dataB, inB, *] <;> omega)
theorem s_likeParts (a b : Data) : Spec Tryz.prog 124 0 [] [a.av, b.av] (fun r _ _ _ => r = .bo (likeB a b)) := by
  refine mk124 rfl fun c hP hm => ?_
  unfold pc124 Data.av
  simp only [go_sem, ↓reduceIte]
  repeat' first | refine And.intro ?_ ?_ | intro _
  all_goals (simp [likeB, *])
theorem s_l22Same (a b : Data) : Spec Tryz.prog 121 0 [] [a.av, b.av] (fun r _ _ _ => r = .bo (likeB a b)) := by
  refine mk121 rfl fun c hP hm => ?_
  unfold pc121 Data.av
  simp only [go_sem, ↓reduceIte]
  repeat' first | refine And.intro ?_ ?_ | intro _
  all_goals (simp [likeB, *])
def mayB (l : List Data) (d : Data) : Bool := match l.getLast? with
  | some x => if x.last then d.first && (d.loose || d.ssn == ssnIn l d.stream) else !d.first && likeB d x
  | none => d.first && (d.loose || d.ssn == ssnIn l d.stream)
theorem s_l31Follows (l : List Data) (d : Data) (hl : l.length ≤ 2000000) : Spec Tryz.prog 104 0 [] [.r (.ro none (l.map Data.row)), d.av] (fun r _ _ _ => r = .bo (mayB l d)) := by
  refine mk104 rfl fun c hP hm => ?_
  unfold pc104 Data.av
  rcases l.eq_nil_or_concat with rfl | ⟨l0, x, rfl⟩
  · simp only [go_sem, ↓reduceIte]
    repeat' first | refine And.intro ?_ ?_ | intro _ | (refine call_pure (hP ▸ s_l31Ssn [] d.stream (by decide)) rfl rfl ?_; simp only [go_sem, ↓reduceIte])
    all_goals (try (apply bo_inj; simp [mayB, *]))
  · rw [List.concat_eq_append] at hl ⊢
    have hlen : (l0 ++ [x]).length = l0.length + 1 := by simp
    have hlast : (l0 ++ [x]).getLast? = some x := by simp
    have hg : ((l0 ++ [x]).map Data.row).getD l0.length [] = [.n .i64 x.tsn, .n .i64 x.stream, .n .i64 x.ssn, .b x.first, .b x.last, .b x.loose, .s x.text] := by
      rw [List.map_append, List.map_cons]; exact mid_get (by simp)
    generalize hL : l0 ++ [x] = l at hl hlen hlast hg
    have e1 : IntKind.i64.wrap (((l0.length + 1 : Nat) : Int) - 1) = (l0.length : Int) := by rw [wrap64 (by omega) (by omega)]; omega
    simp only [hlen, e1, hg, Int.toNat_natCast,go_sem,↓reduceIte]
    have hlike := like_comm d x
    repeat' first | refine And.intro ?_ ?_ | intro _ | (refine call_pure (hP ▸ s_l31Ssn l d.stream (by omega)) rfl rfl ?_; simp only [go_sem, ↓reduceIte]) | (refine call_pure (hP ▸ s_l22Same x d) rfl rfl ?_; simp only [hlen, e1, hg, Int.toNat_natCast,go_sem,↓reduceIte])
    all_goals first
      | omega
      | (apply bo_inj; simp [mayB, *])
theorem loop_mayFollow {c : Cx} (hm : c.m = 0) (l : List Data) (d : Data) (hl : l.length ≤ 2000000) {s0 : St} {n r : St → Prop} {x : Nat → St → Prop}
    (hs : Le c s0 ⟨[(3, .ptr 0 0 0), (5, .i 0), (39, .r (.ro none (l.map Data.row))), (40, .i l.length), (41, .i 0)], [(0, .var [.i d.tsn, .i d.stream, .i d.ssn, .bo d.first, .bo d.last, .bo d.loose, .st d.text])], 1, []⟩)
    (hx : x 0 ⟨[(3, .ptr 0 0 0), (5, .i (ssnIn l d.stream))], [(0, .var [.i d.tsn, .i d.stream, .i d.ssn, .bo d.first, .bo d.last, .bo d.loose, .st d.text])], 1, []⟩) :
    Run c (.lp pc108l0) s0 n x r := by
  refine run_exit 0 (fun t0 => t0 = ⟨[(3, .ptr 0 0 0), (5, .i (ssnIn l d.stream))], [(0, .var [.i d.tsn, .i d.stream, .i d.ssn, .bo d.first, .bo d.last, .bo d.loose, .st d.text])], 1, []⟩) ?_ (fun t0 h => by rw [h]; exact hx)
  refine lp_wpc (α := Nat) (fun i => ⟨[(3, .ptr 0 0 0), (5, .i (ssnIn (l.take i) d.stream)), (39, .r (.ro none (l.map Data.row))), (40, .i l.length), (41, .i i)], [(0, .var [.i d.tsn, .i d.stream, .i d.ssn, .bo d.first, .bo d.last, .bo d.loose, .st d.text])], 1, []⟩)
    (fun i => i ≤ l.length) (fun i => l.length - i) 0 (Nat.zero_le _) hs ?_
  intro i hi
  unfold pc108l0
  rcases Nat.lt_or_ge i l.length with hil | hil
  · have hst := ssnIn_take hil d.stream
    have hle := ssnIn_le (l.take i) d.stream
    have htl : (l.take i).length ≤ l.length := by rw [List.length_take]; omega
    simp only [Int.toNat_natCast, getD_map hil, Data.row, hm,go_sem,↓reduceIte]
    rw [wrap64 (x := (i : Int) + 1) (by omega) (by omega), wrap64 (x := (ssnIn (l.take i) d.stream : Int) + 1) (by omega) (by omega)]
    repeat' first | refine And.intro ?_ ?_ | intro _
    all_goals first
      | omega
      | (refine ⟨i + 1, hil, by omega, ?_⟩
         rw [hst]
         simp only [*, if_true, if_false, Bool.false_eq_true, and_self, true_and, false_and, and_false, reduceCtorEq, Nat.add_zero]
         exact le_ev [] (by simp only [hm,go_sem,↓reduceIte]; first | rfl | exact ⟨rfl, rfl⟩))
  · have : i = l.length := by omega
    subst this
    simp only [go_sem, ↓reduceIte]
    exact ⟨_, rfl, le_ev [] (by simp only [hm, List.take_length,go_sem,↓reduceIte])⟩
theorem s_mayFollow (l : List Data) (d : Data) (hl : l.length ≤ 2000000) : Spec Tryz.prog 108 0 [] [.r (.ro none (l.map Data.row)), d.av] (fun r _ _ _ => r = .bo (mayB l d)) := by
  refine mk108 rfl fun c hP hm => ?_
  unfold pc108 Data.av
  rcases l.eq_nil_or_concat with rfl | ⟨l0, x, rfl⟩
  · simp only [go_sem, ↓reduceIte]
    refine ⟨fun h => by apply bo_inj; simp [mayB, h], fun h => ⟨fun h2 => by apply bo_inj; simp [mayB, h, h2], fun h2 => ?_⟩⟩
    refine loop_mayFollow hm [] d (by decide) (le_ev [] (by simp only [hm, List.map_nil,go_sem,↓reduceIte])) ?_
    simp only [go_sem, ↓reduceIte]
    apply bo_inj; simp [mayB, h, h2]
  · rw [List.concat_eq_append] at hl ⊢
    have hlen : (l0 ++ [x]).length = l0.length + 1 := by simp
    have hlast : (l0 ++ [x]).getLast? = some x := by simp
    have hg : ((l0 ++ [x]).map Data.row).getD l0.length [] = [.n .i64 x.tsn, .n .i64 x.stream, .n .i64 x.ssn, .b x.first, .b x.last, .b x.loose, .s x.text] := by
      rw [List.map_append, List.map_cons]; exact mid_get (by simp)
    generalize hL : l0 ++ [x] = l at hl hlen hlast hg
    have e1 : IntKind.i64.wrap (((l0.length + 1 : Nat) : Int) - 1) = (l0.length : Int) := by rw [wrap64 (by omega) (by omega)]; omega
    simp only [hlen, e1, hg, Int.toNat_natCast,go_sem,↓reduceIte]
    repeat' first | refine And.intro ?_ ?_ | intro _ | (refine call_pure (hP ▸ s_likeParts d x) rfl rfl ?_; simp only [hlen, e1, hg, Int.toNat_natCast,go_sem,↓reduceIte]) | (refine loop_mayFollow hm l d (by omega) (le_ev [] (by simp only [hm, hlen,go_sem,↓reduceIte])) ?_; simp only [go_sem, ↓reduceIte])
    all_goals first
      | omega
      | (apply bo_inj; simp [mayB, *])
structure Side where
  tag : Int
  streams : Int
  first : Int
  sent : List Data
  acked : Int
def Side.av (s : Side) (x : AV) : AV := .agg [.i s.tag, .i s.streams, .i s.first, x, .i s.acked]
def Side.ro (s : Side) : AV := s.av (.r (.ro none (s.sent.map Data.row)))
def partB (add : Int → Int → Int) (s : Side) (i : Nat) (d : Data) : Bool := dataB d && d.tsn == add s.first i && decide (d.stream < s.streams) && mayB (s.sent.take i) d
def sideLoop (add : Int → Int → Int) (s : Side) : Nat → List Data → Bool
  | _, [] => true
  | i, d :: l => partB add s i d && sideLoop add s (i + 1) l
theorem sideLoop_drop {add : Int → Int → Int} {s : Side} {l : List Data} {i : Nat} (h : i < l.length) : sideLoop add s i (l.drop i) = (partB add s i l[i] && sideLoop add s (i + 1) (l.drop (i + 1))) := by
  rw [List.drop_eq_getElem_cons h]; rfl
def headB (s : Side) : Bool := decide (1 ≤ s.tag ∧ s.tag ≤ 4294967295) && decide (1 ≤ s.streams ∧ s.streams ≤ 4) && serialB s.first && decide (s.sent.length ≤ 12) && decide (0 ≤ s.acked ∧ s.acked ≤ s.sent.length)
def noneB (s : Side) : Bool := s.streams == 0 && s.first == 0 && decide (s.sent.length = 0) && s.acked == 0
def sideB (s : Side) : Bool := if s.tag = 0 then noneB s else headB s && sideLoop l3 s 0 s.sent
def l3g (a n : Int) : Int := (IntKind.i64.wrap (IntKind.i64.wrap (a + n.tmod 65536) + 65536)).tmod 65536
theorem s_l3Add' (a n : Int) : Spec Tryz.prog 103 0 [] [.i a, .i n] (fun r _ _ _ => r = .i (l3g a n)) := by
  refine mk103 rfl fun c hP hm => ?_
  unfold pc103
  simp only [go_sem, ↓reduceIte]
  rfl
theorem l3g_eq {a n : Int} (ha : 0 ≤ a ∧ a < 65536) : l3g a n = l3 a n := by
  obtain ⟨h1, h2, h3⟩ := tmod64k n
  unfold l3g
  rw [wrap64 (x := a + n.tmod 65536) (by omega) (by omega), wrap64 (by omega) (by omega), Int.tmod_eq_emod_of_nonneg (by omega)]
  unfold l3
  omega
theorem sideLoop_congr {f g : Int → Int → Int} {s : Side} (h : ∀ n, f s.first n = g s.first n) : ∀ (i : Nat) (l : List Data), sideLoop f s i l = sideLoop g s i l
  | _, [] => rfl
  | i, d :: l => by simp only [sideLoop, partB, h, sideLoop_congr h (i + 1) l]
theorem s_SerialAdd1 (a n : Int) (h : serialB a = true) : Spec Tryz.prog 107 0 [] [.i a, .i n] (fun r _ _ _ => r = .i (l3 a n)) := by
  have := s_SerialAdd a n; rwa [if_pos h] at this
theorem loop_implSideValid {c : Cx} (hP : c.P = Tryz.prog) (hm : c.m = 0) (s : Side) (hl : s.sent.length ≤ 12) (hx : ∀ d ∈ s.sent, d.text.length ≤ 9223372036854775807) (hf : serialB s.first = true) {s0 : St} {n r : St → Prop} {x : Nat → St → Prop}
    (hs : Le c s0 ⟨[(1, .ptr 0 0 0), (71, .r (.ro none (s.sent.map Data.row))), (72, .i s.sent.length), (73, .i 0)], [(0, .var [.i s.tag, .i s.streams, .i s.first, .r (.ro none (s.sent.map Data.row)), .i s.acked])], 1, []⟩)
    (hr : sideLoop l3 s 0 s.sent = false → ∀ hp nx gs, r ⟨[(2, .r (.b false))], hp, nx, gs⟩)
    (hx0 : sideLoop l3 s 0 s.sent = true → x 0 ⟨[], [], 1, []⟩) :
    Run c (.lp pc86l0) s0 n x r := by
  refine run_exit 0 (fun t0 => t0 = ⟨[], [], 1, []⟩ ∧ sideLoop l3 s 0 s.sent = true) ?_ (fun t0 h => by rw [h.1]; exact hx0 h.2)
  refine lp_wpc (α := Nat) (fun i => ⟨[(1, .ptr 0 0 0), (71, .r (.ro none (s.sent.map Data.row))), (72, .i s.sent.length), (73, .i i)], [(0, .var [.i s.tag, .i s.streams, .i s.first, .r (.ro none (s.sent.map Data.row)), .i s.acked])], 1, []⟩)
    (fun i => i ≤ s.sent.length ∧ sideLoop l3 s i (s.sent.drop i) = sideLoop l3 s 0 s.sent) (fun i => s.sent.length - i) 0 ⟨Nat.zero_le _, rfl⟩ hs ?_
  rintro i ⟨hi, hI⟩
  unfold pc86l0
  rcases Nat.lt_or_ge i s.sent.length with hil | hil
  · rw [sideLoop_drop hil] at hI
    have hd := hx _ (List.getElem_mem hil)
    simp only [Int.toNat_natCast, getD_map hil, Data.row, hm,go_sem,↓reduceIte]
    generalize s.sent[i] = d at hI hd
    repeat' first | refine And.intro ?_ ?_ | intro _ | (refine call_pure (hP ▸ s_dataOk d hd) rfl rfl ?_; simp only [Int.toNat_natCast, getD_map hil, hm,go_sem,↓reduceIte]) | (refine call_pure (hP ▸ s_SerialAdd1 s.first i hf) rfl rfl ?_; simp only [Int.toNat_natCast, getD_map hil, ← List.map_take, hm,go_sem,↓reduceIte]) | (refine call_pure (hP ▸ s_mayFollow (s.sent.take i) d (by rw [List.length_take]; omega)) rfl rfl ?_; simp only [Int.toNat_natCast, getD_map hil, hm,go_sem,↓reduceIte])
    all_goals first
      | omega
      | (rename_i h; obtain ⟨_, _, rfl⟩ := List.mem_map.1 h; rfl)
      | (refine hr ?_ _ _ _; rw [← hI]; simp [partB, *]; done)
      | (rename_i h; have h' := Int.not_lt.2 h; refine hr ?_ _ _ _; rw [← hI]; simp [partB, h']; done)
      | (refine ⟨i + 1, ⟨hil, ?_⟩, by omega, ?_⟩
         · rw [← hI]; simp [partB, *]
         · rw [wrap64 (by omega) (by omega)]
           exact le_ev [] (by simp only [hm,go_sem,↓reduceIte]; rfl))
  · have : i = s.sent.length := by omega
    subst this
    rw [List.drop_eq_nil_of_le (Nat.le_refl _)] at hI
    simp only [go_sem, ↓reduceIte]
    exact ⟨_, ⟨rfl, hI.symm⟩, le_ev [] (by simp only [hm,go_sem,↓reduceIte])⟩
theorem loop_specSideValid {c : Cx} (hP : c.P = Tryz.prog) (hm : c.m = 0) (s : Side) (hl : s.sent.length ≤ 2000000) (hx : ∀ d ∈ s.sent, d.text.length ≤ 9223372036854775807) {s0 : St} {n r : St → Prop} {x : Nat → St → Prop}
    (hs : Le c s0 ⟨[(1, .ptr 0 0 0), (3, .i 0)], [(0, .var [.i s.tag, .i s.streams, .i s.first, .r (.ro none (s.sent.map Data.row)), .i s.acked])], 1, []⟩)
    (hr : sideLoop l3g s 0 s.sent = false → ∀ hp nx gs, r ⟨[(2, .r (.b false))], hp, nx, gs⟩)
    (hx0 : sideLoop l3g s 0 s.sent = true → x 0 ⟨[(1, .ptr 0 0 0)], [(0, .var [.i s.tag, .i s.streams, .i s.first, .r (.ro none (s.sent.map Data.row)), .i s.acked])], 1, []⟩) :
    Run c (.lp pc83l0) s0 n x r := by
  refine run_exit 0 (fun t0 => t0 = ⟨[(1, .ptr 0 0 0)], [(0, .var [.i s.tag, .i s.streams, .i s.first, .r (.ro none (s.sent.map Data.row)), .i s.acked])], 1, []⟩ ∧ sideLoop l3g s 0 s.sent = true) ?_ (fun t0 h => by rw [h.1]; exact hx0 h.2)
  refine lp_wpc (α := Nat) (fun i => ⟨[(1, .ptr 0 0 0), (3, .i i)], [(0, .var [.i s.tag, .i s.streams, .i s.first, .r (.ro none (s.sent.map Data.row)), .i s.acked])], 1, []⟩)
    (fun i => i ≤ s.sent.length ∧ sideLoop l3g s i (s.sent.drop i) = sideLoop l3g s 0 s.sent) (fun i => s.sent.length - i) 0 ⟨Nat.zero_le _, rfl⟩ hs ?_
  rintro i ⟨hi, hI⟩
  unfold pc83l0
  rcases Nat.lt_or_ge i s.sent.length with hil | hil
  · rw [sideLoop_drop hil] at hI
    have hd := hx _ (List.getElem_mem hil)
    simp only [Int.toNat_natCast, getD_map hil, Data.row, hm,go_sem,↓reduceIte]
    generalize s.sent[i] = d at hI hd
    repeat' first | refine And.intro ?_ ?_ | intro _ | (refine call_pure (hP ▸ s_l12Data d hd) rfl rfl ?_; simp only [Int.toNat_natCast, getD_map hil, hm,go_sem,↓reduceIte]) | (refine call_pure (hP ▸ s_l3Add' s.first i) rfl rfl ?_; simp only [Int.toNat_natCast, getD_map hil, ← List.map_take, hm,go_sem,↓reduceIte]) | (refine call_pure (hP ▸ s_l31Follows (s.sent.take i) d (by rw [List.length_take]; omega)) rfl rfl ?_; simp only [Int.toNat_natCast, getD_map hil, hm,go_sem,↓reduceIte])
    all_goals first
      | omega
      | (rename_i h; obtain ⟨_, _, rfl⟩ := List.mem_map.1 h; rfl)
      | (refine hr ?_ _ _ _; rw [← hI]; simp [partB, *]; done)
      | (rename_i h; have h' := Int.not_lt.2 h; refine hr ?_ _ _ _; rw [← hI]; simp [partB, h']; done)
      | (refine ⟨i + 1, ⟨hil, ?_⟩, by omega, ?_⟩
         · rw [← hI]; simp [partB, *]
         · rw [wrap64 (by omega) (by omega)]
           exact le_ev [] (by simp only [hm,go_sem,↓reduceIte]; rfl))
  · have : i = s.sent.length := by omega
    subst this
    rw [List.drop_eq_nil_of_le (Nat.le_refl _)] at hI
    simp only [go_sem, ↓reduceIte]
    exact fun _ => ⟨_, ⟨rfl, hI.symm⟩, le_ev [] (by simp only [hm,go_sem,↓reduceIte])⟩
theorem s_implSideValid (s : Side) (hl : s.sent.length ≤ 2000000) (hx : ∀ d ∈ s.sent, d.text.length ≤ 9223372036854775807) : Spec Tryz.prog 86 0 [] [s.ro] (fun r _ _ _ => r = .bo (sideB s)) := by
  refine mk86 rfl fun c hP hm => ?_
  unfold pc86 Side.ro Side.av
  simp only [go_sem, ↓reduceIte]
  repeat' first | refine And.intro ?_ ?_ | intro _ | (refine c_serialOk hP ?_; simp only [go_sem, ↓reduceIte])
  all_goals first
    | (apply bo_inj; rw [Bool.eq_iff_iff]; simp [sideB, noneB, headB, *] <;> omega)
    | (apply bo_inj; rw [Bool.eq_iff_iff]; simp only [sideB, noneB, if_pos (by assumption : s.tag = 0), Bool.and_eq_true, beq_iff_eq, decide_eq_true_eq, Bool.false_eq_true, false_iff]; omega)
    | (refine loop_implSideValid hP hm s (by omega) hx (by assumption) (le_ev [] (by simp only [hm,go_sem,↓reduceIte])) ?_ ?_
       · intro hf hp nx gs
         simp only [go_sem, ↓reduceIte]
         apply bo_inj; simp [sideB, hf, *]
       · intro hf
         simp only [go_sem, ↓reduceIte]
         apply bo_inj; rw [Bool.eq_iff_iff]; simp [sideB, headB, *]; omega)
theorem s_specSideValid (s : Side) (hl : s.sent.length ≤ 2000000) (hx : ∀ d ∈ s.sent, d.text.length ≤ 9223372036854775807) : Spec Tryz.prog 83 0 [] [s.ro] (fun r _ _ _ => r = .bo (sideB s)) := by
  refine mk83 rfl fun c hP hm => ?_
  unfold pc83 Side.ro Side.av
  simp only [go_sem, ↓reduceIte]
  have key : serialB s.first = true → sideLoop l3g s 0 s.sent = sideLoop l3 s 0 s.sent := fun h => sideLoop_congr (fun n => l3g_eq (by simpa [serialB] using h)) _ _
  repeat' first | refine And.intro ?_ ?_ | intro _
  all_goals first
    | (apply bo_inj; rw [Bool.eq_iff_iff]; simp [sideB, noneB, *] <;> omega)
    | (apply bo_inj; rw [Bool.eq_iff_iff]; simp only [sideB, noneB, if_pos (by assumption : s.tag = 0), Bool.and_eq_true, beq_iff_eq, decide_eq_true_eq, Bool.false_eq_true, false_iff]; omega)
    | (refine loop_specSideValid hP hm s hl hx (le_ev [] (by simp only [hm,go_sem,↓reduceIte])) ?_ ?_
       · intro hf hp nx gs
         simp only [go_sem, ↓reduceIte]
         apply bo_inj
         cases hser : serialB s.first
         · simp [sideB, headB, hser, *]
         · rw [key hser] at hf; simp [sideB, hf, *]
       · intro hf
         simp only [go_sem, ↓reduceIte]
         repeat' first | refine And.intro ?_ ?_ | intro _ | (refine c_l6In hP ?_; simp only [go_sem, ↓reduceIte]) | (refine c_l3Ok hP ?_; simp only [go_sem, ↓reduceIte])
         all_goals first
           | omega
           | (apply bo_inj; rw [Bool.eq_iff_iff]; simp only [inB, Bool.and_eq_true, decide_eq_true_eq, decide_eq_false_iff_not] at *; simp only [sideB, headB, if_neg (by assumption : ¬ s.tag = 0), Bool.and_eq_true, decide_eq_true_eq, Bool.false_eq_true, false_iff]; first
              | (have hk := key (by assumption); rw [hk] at hf; simp only [hf, *, and_true, true_and]; omega)
              | (simp only [*, Bool.false_eq_true, false_and, and_false, not_false_eq_true]; done)
              | omega))
def cntR (f : List Data) : List RV := [.n .i64 (ssnIn f 0), .n .i64 (ssnIn f 1), .n .i64 (ssnIn f 2), .n .i64 (ssnIn f 3)]
@[go_sem] theorem cnt_len (f : List Data) : (cnt f).length = 4 := (rfl)
@[go_sem] theorem cntR_len (f : List Data) : (cntR f).length = 4 := (rfl)
theorem sideLoop_may {add : Int → Int → Int} {s : Side} : ∀ (l : List Data) (i : Nat), sideLoop add s i l = true → ∀ j (hj : j < l.length), partB add s (i + j) l[j] = true
  | [], i, h, j, hj => by simp at hj
  | d :: l, i, h, 0, hj => by simp only [sideLoop, Bool.and_eq_true] at h; exact h.1
  | d :: l, i, h, j + 1, hj => by
    simp only [sideLoop, Bool.and_eq_true] at h
    have := sideLoop_may l (i + 1) h.2 j (by simpa using hj)
    simpa [Nat.add_assoc, Nat.add_comm 1 j] using this
def Talk.init (t : Talk) (byB : Bool) : Init := if byB then t.b else t.a
theorem init_ok {t : Talk} (hv : talkB t = true) (byB : Bool) : initB (t.init byB) = true := by
  simp only [talkB, talkHead, Bool.and_eq_true] at hv
  cases byB
  · exact hv.1.1.1.1.2
  · exact hv.1.1.1.2
theorem sideLoop_of {add : Int → Int → Int} {s : Side} : ∀ (l : List Data) (i : Nat), (∀ j (hj : j < l.length), partB add s (i + j) l[j] = true) → sideLoop add s i l = true
  | [], i, h => rfl
  | d :: l, i, h => by
    simp only [sideLoop, Bool.and_eq_true]
    refine ⟨h 0 (by simp), sideLoop_of l (i + 1) fun j hj => ?_⟩
    have := h (j + 1) (by simpa using hj)
    simpa [Nat.add_assoc, Nat.add_comm 1 j] using this
end Go.Cap
namespace Go.Cap
def u8 (x : Int) : UInt8 := UInt8.ofNat x.toNat
def word (n : Int) : List UInt8 := [u8 (n / 256), u8 (n % 256)]
def long (n : Int) : List UInt8 := word (n / 65536) ++ word (n % 65536)
theorem u8_nat {x : Int} (h : 0 ≤ x ∧ x < 256) : ((u8 x).toNat : Int) = x := by
  unfold u8
  rw [UInt8.toNat_ofNat']
  omega
theorem u8_of (b : UInt8) : u8 (b.toNat : Int) = b := by
  unfold u8
  rw [Int.toNat_natCast]
  exact UInt8.ofNat_toNat
def at2 (s : List UInt8) (i : Nat) : Int := 256 * (s.getD i 0).toNat + (s.getD (i + 1) 0).toNat
theorem byte_lt (b : UInt8) : (b.toNat : Int) < 256 := by have := b.toNat_lt; omega
theorem at2_range (s : List UInt8) (i : Nat) : 0 ≤ at2 s i ∧ at2 s i < 65536 := by
  have h1 := byte_lt (s.getD i 0)
  have h2 := byte_lt (s.getD (i + 1) 0)
  unfold at2; omega
theorem at2_word {n : Int} (h : 0 ≤ n ∧ n < 65536) (a b : List UInt8) : at2 (a ++ word n ++ b) a.length = n := by
  unfold at2 word
  have e1 : (a ++ [u8 (n / 256), u8 (n % 256)] ++ b).getD a.length 0 = u8 (n / 256) := by
    rw [List.append_assoc, List.getD_eq_getElem?_getD, List.getElem?_append_right (Nat.le_refl _), Nat.sub_self]; rfl
  have e2 : (a ++ [u8 (n / 256), u8 (n % 256)] ++ b).getD (a.length + 1) 0 = u8 (n % 256) := by
    rw [List.append_assoc, List.getD_eq_getElem?_getD, List.getElem?_append_right (by omega), Nat.add_sub_cancel_left]; rfl
  rw [e1, e2, u8_nat (by omega), u8_nat (by omega)]
  omega
theorem word_at2 (s : List UInt8) (i : Nat) : word (at2 s i) = [s.getD i 0, s.getD (i + 1) 0] := by
  have h1 := byte_lt (s.getD i 0)
  have h2 := byte_lt (s.getD (i + 1) 0)
  unfold word at2
  have e1 : (256 * ((s.getD i 0).toNat : Int) + ((s.getD (i + 1) 0).toNat : Int)) / 256 = ((s.getD i 0).toNat : Int) := by omega
  have e2 : (256 * ((s.getD i 0).toNat : Int) + ((s.getD (i + 1) 0).toNat : Int)) % 256 = ((s.getD (i + 1) 0).toNat : Int) := by omega
  rw [e1, e2, u8_of, u8_of]
def adl : List UInt8 → Int → Int → Int × Int
  | [], a, b => (a, b)
  | c :: l, a, b => adl l ((a + c.toNat) % 65521) ((b + (a + c.toNat) % 65521) % 65521)
def sumOf (s : List UInt8) : Int := 65536 * (adl s 1 0).2 + (adl s 1 0).1
theorem adl_range : ∀ (s : List UInt8) (a b : Int), (0 ≤ a ∧ a < 65521) → (0 ≤ b ∧ b < 65521) → (0 ≤ (adl s a b).1 ∧ (adl s a b).1 < 65521) ∧ (0 ≤ (adl s a b).2 ∧ (adl s a b).2 < 65521)
  | [], a, b, ha, hb => ⟨ha, hb⟩
  | c :: l, a, b, ha, hb => adl_range l _ _ (by omega) (by omega)
theorem adl_take {s : List UInt8} {i : Nat} (h : i < s.length) (a b : Int) : adl (s.take (i + 1)) a b = (((adl (s.take i) a b).1 + s[i].toNat) % 65521, ((adl (s.take i) a b).2 + ((adl (s.take i) a b).1 + s[i].toNat) % 65521) % 65521) := by
  induction s generalizing i a b with
  | nil => simp at h
  | cons c s ih =>
    cases i with
    | zero => simp [adl]
    | succ i =>
      rw [List.take_succ_cons, List.take_succ_cons, adl, adl, ih (by simpa using h)]
      rfl
structure Chunk where
  kind : Int
  flags : Int
  body : List UInt8
  deriving Inhabited
def Chunk.row (c : Chunk) : List RV := [.n .i64 c.kind, .n .i64 c.flags, .s c.body]
def Chunk.av (c : Chunk) : AV := .agg [.i c.kind, .i c.flags, .st c.body]
def chunkB (c : Chunk) : Bool := inB c.kind 0 255 && inB c.flags 0 255 && decide (c.body.length ≤ 60)
def padN (n : Nat) : Nat := (4 - n % 4) % 4
def chunkPut (c : Chunk) : List UInt8 := [u8 c.kind, u8 c.flags] ++ word (4 + c.body.length : Nat) ++ c.body ++ List.replicate (padN c.body.length) 0
theorem padN_lt (n : Nat) : padN n < 4 ∧ (n + padN n) % 4 = 0 := by unfold padN; omega
structure Packet where
  fr : Int
  to : Int
  tag : Int
  chunks : List Chunk
  deriving Inhabited
def Packet.ro (p : Packet) : AV := .agg [.i p.fr, .i p.to, .i p.tag, .r (.ro none (p.chunks.map Chunk.row))]
def Packet.row (p : Packet) : List RV := [.n .i64 p.fr, .n .i64 p.to, .n .i64 p.tag, .ro none (p.chunks.map Chunk.row)]
def packB (p : Packet) : Bool := inB p.fr 1 65535 && inB p.to 1 65535 && decide (p.fr ≠ p.to) && inB p.tag 0 4294967295 && decide (1 ≤ p.chunks.length ∧ p.chunks.length ≤ 4) && p.chunks.all chunkB
def packHead (p : Packet) : List UInt8 := word p.fr ++ word p.to ++ long p.tag
def packRest (p : Packet) : List UInt8 := p.chunks.flatMap chunkPut
def packRaw (p : Packet) : List UInt8 := packHead p ++ long (sumOf (packHead p ++ [0, 0, 0, 0] ++ packRest p)) ++ packRest p
def packPut (p : Packet) : List UInt8 := if packB p then packRaw p else []
def bit (b : Bool) (n : Int) : Int := if b then n else 0
def dataPut (d : Data) : Chunk := ⟨0, bit d.last 1 + bit d.first 2 + bit d.loose 4, word d.tsn ++ word d.stream ++ word d.ssn ++ d.text⟩
def initPut (x : Init) (ans : Bool) : Chunk := ⟨if ans then 2 else 1, 0, long x.tag ++ word x.window ++ word x.streams ++ word x.tsn⟩
structure Gap where
  fr : Int
  to : Int
  deriving Inhabited
def Gap.row (g : Gap) : List RV := [.n .i64 g.fr, .n .i64 g.to]
structure Sack where
  cum : Int
  gaps : List Gap
  deriving Inhabited
def gapsB : Int → List Gap → Bool
  | _, [] => true
  | last, g :: l => decide (last + 2 ≤ g.fr ∧ g.fr ≤ g.to ∧ g.to ≤ 16) && gapsB g.to l
def sackB (s : Sack) : Bool := serialB s.cum && decide (s.gaps.length ≤ 8) && gapsB 0 s.gaps
def sackPut (s : Sack) : Chunk := ⟨3, 0, word s.cum ++ s.gaps.flatMap fun g => word g.fr ++ word g.to⟩
def talkAll (z : Nat) (ta tb : Int) : List Say → List Data → List Data → List (Bool × Data)
  | [], _, _ => []
  | s :: l, oa, ob => if s.byB then (nextParts z tb ob s).map (fun d => (true, d)) ++ talkAll z ta tb l oa (ob ++ nextParts z tb ob s)
    else (nextParts z ta oa s).map (fun d => (false, d)) ++ talkAll z ta tb l (oa ++ nextParts z ta oa s) ob
def onePk (t : Talk) (byB : Bool) (c : Chunk) : Packet := if byB then ⟨t.to, t.fr, t.a.tag, [c]⟩ else ⟨t.fr, t.to, t.b.tag, [c]⟩
def hello (t : Talk) : List Packet := [⟨t.fr, t.to, 0, [initPut t.a false]⟩, onePk t true (initPut t.b true), onePk t false ⟨10, 0, []⟩, onePk t true ⟨11, 0, []⟩]
def saysPk (t : Talk) (l : List (Bool × Data)) : List Packet := l.flatMap fun x => [onePk t x.1 (dataPut x.2), onePk t (!x.1) (sackPut ⟨x.2.tsn, []⟩)]
def bye (t : Talk) : List Packet := [onePk t false ⟨7, 0, []⟩, onePk t true ⟨8, 0, []⟩, onePk t false ⟨14, 0, []⟩]
def Talk.all (t : Talk) : List (Bool × Data) := talkAll t.size.toNat t.a.tsn t.b.tsn t.says [] []
def talkPk (t : Talk) : List Packet := if talkB t then hello t ++ saysPk t t.all ++ bye t else []
structure Rec where
  time : Int
  text : List UInt8
  deriving Inhabited
def Rec.row (x : Rec) : List RV := [.n .i64 x.time, .s x.text]
def Rec.av (x : Rec) : AV := .agg [.i x.time, .st x.text]
def recsFrom : Int → List Rec → Bool
  | _, [] => true
  | last, x :: l => inB x.time last 4294967295 && decide (x.text.length ≤ 120) && recsFrom x.time l
def captB (l : List Rec) : Bool := recsFrom 0 l && decide (l.length ≤ 60)
def recsOf (l : List Packet) (begin : Int) : List Rec := (List.range l.length).map fun (i : Nat) => ⟨begin + (i : Int), packPut (l.getD i default)⟩
structure Assoc where
  fr : Int
  to : Int
  state : Int
  byB : Bool
  a : Side
  b : Side
def Assoc.cellsX (a : Assoc) (x y : RV) : List RV := [.n .i64 a.fr, .n .i64 a.to, .n .i64 a.state, .b a.byB, .n .i64 a.a.tag, .n .i64 a.a.streams, .n .i64 a.a.first, x, .n .i64 a.a.acked, .n .i64 a.b.tag, .n .i64 a.b.streams, .n .i64 a.b.first, y, .n .i64 a.b.acked]
def Assoc.row (a : Assoc) : List RV := a.cellsX (.ro none (a.a.sent.map Data.row)) (.ro none (a.b.sent.map Data.row))
def Assoc.av (a : Assoc) (x y : AV) : AV := .agg [.i a.fr, .i a.to, .i a.state, .bo a.byB, .i a.a.tag, .i a.a.streams, .i a.a.first, x, .i a.a.acked, .i a.b.tag, .i a.b.streams, .i a.b.first, y, .i a.b.acked]
def Assoc.ro (a : Assoc) : AV := a.av (.r (.ro none (a.a.sent.map Data.row))) (.r (.ro none (a.b.sent.map Data.row)))
def assocB (a : Assoc) : Bool :=
  inB a.fr 1 65535 && inB a.to 1 65535 && decide (a.fr ≠ a.to) && inB a.state 0 7 && sideB a.a && sideB a.b && (decide (0 < a.a.tag) == decide (1 ≤ a.state)) &&
  (decide (a.state = 7) || (decide (0 < a.b.tag) == decide (2 ≤ a.state))) && (decide (3 ≤ a.state) || decide (a.a.sent.length + a.b.sent.length = 0)) && (!a.byB || decide (5 ≤ a.state))
theorem assocB_iff {a : Assoc} : assocB a = true ↔ (1 ≤ a.fr ∧ a.fr ≤ 65535) ∧ (1 ≤ a.to ∧ a.to ≤ 65535) ∧ a.fr ≠ a.to ∧ (0 ≤ a.state ∧ a.state ≤ 7) ∧ sideB a.a = true ∧ sideB a.b = true ∧ (0 < a.a.tag ↔ 1 ≤ a.state) ∧
    (a.state = 7 ∨ (0 < a.b.tag ↔ 2 ≤ a.state)) ∧ (3 ≤ a.state ∨ a.a.sent.length + a.b.sent.length = 0) ∧ (a.byB = false ∨ 5 ≤ a.state) := by
  simp only [assocB, inB, Bool.and_eq_true, Bool.or_eq_true, decide_eq_true_eq, beq_iff_eq, decide_eq_decide, Bool.not_eq_true']
  constructor
  · rintro ⟨⟨⟨⟨⟨⟨⟨⟨⟨h1, h2⟩, h3⟩, h4⟩, h5⟩, h6⟩, h7⟩, h8⟩, h9⟩, h10⟩
    exact ⟨h1, h2, h3, h4, h5, h6, h7, h8, h9, h10⟩
  · rintro ⟨h1, h2, h3, h4, h5, h6, h7, h8, h9, h10⟩
    exact ⟨⟨⟨⟨⟨⟨⟨⟨⟨h1, h2⟩, h3⟩, h4⟩, h5⟩, h6⟩, h7⟩, h8⟩, h9⟩, h10⟩
structure Fnd where
  rcd : Int
  code : Int
  deriving Inhabited
def Fnd.row (f : Fnd) : List RV := [.n .i64 f.rcd, .n .i64 f.code]
def Fnd.av (f : Fnd) : AV := .agg [.i f.rcd, .i f.code]
structure Mon where
  records : Int
  list : List Assoc
  found : List Fnd
def Mon.ro (m : Mon) : AV := .agg [.i m.records, .r (.ro none (m.list.map Assoc.row)), .r (.ro none (m.found.map Fnd.row))]
def fndB (n : Int) (f : Fnd) : Bool := inB f.rcd 0 (n - 1) && (inB f.code 1 11 || inB f.code 101 105)
def lessB (a b : Fnd) : Bool := decide (a.rcd < b.rcd ∨ (a.rcd = b.rcd ∧ a.code < b.code))
def allB (n : Nat) (p : Nat → Bool) : Bool := (List.range n).all p
theorem allB_true {n : Nat} {p : Nat → Bool} (h : ∀ i, i < n → p i = true) : allB n p = true := List.all_eq_true.2 fun i hi => h i (List.mem_range.1 hi)
theorem allB_false {n : Nat} {p : Nat → Bool} {i : Nat} (hi : i < n) (h : p i = false) : allB n p = false := by
  rw [Bool.eq_false_iff]
  intro h2
  have := List.all_eq_true.1 h2 i (List.mem_range.2 hi)
  rw [h] at this; cases this
theorem allB_iff {n : Nat} {p : Nat → Bool} : allB n p = true ↔ ∀ i, i < n → p i = true := ⟨fun h i hi => List.all_eq_true.1 h i (List.mem_range.2 hi), allB_true⟩
def noSide : Side := ⟨0, 0, 0, [], 0⟩
def noAssoc : Assoc := ⟨0, 0, 0, false, noSide, noSide⟩
def assocAt (l : List Assoc) (i : Nat) : Assoc := l.getD i noAssoc
def fndAt (l : List Fnd) (i : Nat) : Fnd := l.getD i default
theorem assocAt_eq {l : List Assoc} {i : Nat} (h : i < l.length) : assocAt l i = l[i] := by simp [assocAt, List.getD_eq_getElem?_getD, h]
theorem fndAt_eq {l : List Fnd} {i : Nat} (h : i < l.length) : fndAt l i = l[i] := by simp [fndAt, List.getD_eq_getElem?_getD, h]
def foundOne (n : Int) (l : List Fnd) (i : Nat) : Bool := fndB n (fndAt l i) && (decide (i = 0) || lessB (fndAt l (i - 1)) (fndAt l i))
def foundB (n : Int) (l : List Fnd) : Bool := allB l.length (foundOne n l)
def pairB (a : Assoc) (fr to : Int) : Bool := decide ((a.fr = fr ∧ a.to = to) ∨ (a.fr = to ∧ a.to = fr))
def listOne (l : List Assoc) (i : Nat) : Bool := assocB (assocAt l i) && decide ((assocAt l i).state ≠ 0) && allB i fun k => !pairB (assocAt l k) (assocAt l i).fr (assocAt l i).to
def listB (l : List Assoc) : Bool := allB l.length (listOne l)
def monB (m : Mon) : Bool := inB m.records 0 60 && decide (m.list.length ≤ 3) && listB m.list && foundB m.records m.found
def findIx (fr to : Int) : List Assoc → Option Nat
  | [] => none
  | a :: l => if pairB a fr to then some 0 else (findIx fr to l).map (· + 1)
end Go.Cap
namespace Go.Cap
attribute [local irreducible] Call Run Spec Le
def SFit (s : Side) : Prop := s.sent.length ≤ 2000000 ∧ ∀ d ∈ s.sent, d.text.length ≤ 9223372036854775807
theorem s_implAssocValid (a : Assoc) (ha : SFit a.a) (hb : SFit a.b) : Spec Tryz.prog 63 0 [] [a.ro] (fun r _ _ _ => r = .bo (assocB a)) := by
  refine mk63 rfl fun c hP hm => ?_
  unfold pc63 Assoc.ro Assoc.av
  have ka := ha.1
  have kb := hb.1
  have hw : IntKind.i64.wrap ((a.a.sent.length : Int) + (a.b.sent.length : Int)) = (a.a.sent.length : Int) + a.b.sent.length := wrap64 (by omega) (by omega)
  have hif := @assocB_iff a
  simp only [hw, hm,go_sem,↓reduceIte]
  repeat' first | refine And.intro ?_ ?_ | intro _ | (refine call_pure (hP ▸ s_implSideValid a.a ha.1 ha.2) rfl rfl ?_; simp only [hw, hm,go_sem,↓reduceIte]; cases hsa : sideB a.a <;> simp only [hw, hm,go_sem,↓reduceIte]) | (refine call_pure (hP ▸ s_implSideValid a.b hb.1 hb.2) rfl rfl ?_; simp only [hw, hm,go_sem,↓reduceIte]; cases hsb : sideB a.b <;> simp only [hw, hm,go_sem,↓reduceIte])
  all_goals first
    | omega
    | (apply bo_inj
       rw [Bool.eq_iff_iff, hif]
       clear hif ha hb hP hm hw
       first
         | (simp_all; done)
         | (simp_all; omega)
         | (simp only [decide_eq_decide, inB, decide_eq_true_eq, decide_eq_false_iff_not] at *; simp only [true_iff]; refine ⟨by omega, by omega, by omega, by omega, by assumption, by assumption, by omega, by omega, by omega, ?_⟩; first | exact .inl (by assumption) | exact .inr (by omega))
         | (simp only [decide_eq_decide, inB, decide_eq_true_eq, decide_eq_false_iff_not] at *
            constructor
            · intro h5
              refine ⟨by omega, by omega, by omega, by omega, by assumption, by assumption, by omega, by omega, by omega, .inr h5⟩
            · rintro ⟨g1, g2, g3, g4, g5, g6, g7, g8, g9, g10⟩
              rcases g10 with g | g
              · simp_all
                done
              · exact g)
         | (simp only [decide_eq_decide, inB, decide_eq_true_eq, decide_eq_false_iff_not] at *; simp only [Bool.false_eq_true, false_iff]; rintro ⟨g1, g2, g3, g4, g5, g6, g7, g8, g9, g10⟩; first | omega | (simp_all; done) | (simp_all; omega)))
theorem s_l31Open (n : Int) : Spec Tryz.prog 84 0 [] [.i n] (fun r _ _ _ => r = .bo (inB n 3 7)) := by
  refine mk84 rfl fun c hP hm => ?_
  unfold pc84
  simp only [hm,go_sem,↓reduceIte]
  refine c_l6In hP ?_
  simp only [hm,go_sem,↓reduceIte]
theorem s_specAssocValid (a : Assoc) (ha : SFit a.a) (hb : SFit a.b) : Spec Tryz.prog 56 0 [] [a.ro] (fun r _ _ _ => r = .bo (assocB a)) := by
  refine mk56 rfl fun c hP hm => ?_
  unfold pc56 Assoc.ro Assoc.av
  have ka := ha.1
  have kb := hb.1
  have hw : IntKind.i64.wrap ((a.a.sent.length : Int) + (a.b.sent.length : Int)) = (a.a.sent.length : Int) + a.b.sent.length := wrap64 (by omega) (by omega)
  have hif := @assocB_iff a
  simp only [hw, hm,go_sem,↓reduceIte]
  repeat' first | refine And.intro ?_ ?_ | intro _ | (refine c_l6In hP ?_; simp only [hw, hm,go_sem,↓reduceIte]) | (refine call_pure (hP ▸ s_l31Open a.state) rfl rfl ?_; simp only [hw, hm,go_sem,↓reduceIte]) | (refine call_pure (hP ▸ s_specSideValid a.a ha.1 ha.2) rfl rfl ?_; simp only [hw, hm,go_sem,↓reduceIte]; cases hsa : sideB a.a <;> simp only [hw, hm,go_sem,↓reduceIte]) | (refine call_pure (hP ▸ s_specSideValid a.b hb.1 hb.2) rfl rfl ?_; simp only [hw, hm,go_sem,↓reduceIte]; cases hsb : sideB a.b <;> simp only [hw, hm,go_sem,↓reduceIte])
  all_goals first
    | omega
    | (apply bo_inj
       rw [Bool.eq_iff_iff, hif]
       clear hif ha hb hP hm hw
       first
         | (simp_all; done)
         | (simp_all; omega)
         | (simp only [decide_eq_decide, inB, decide_eq_true_eq, decide_eq_false_iff_not] at *; simp only [true_iff]; refine ⟨by omega, by omega, by omega, by omega, by assumption, by assumption, by omega, by omega, by omega, ?_⟩; first | exact .inl (by assumption) | exact .inr (by omega))
         | (simp only [decide_eq_decide, inB, decide_eq_true_eq, decide_eq_false_iff_not] at *
            constructor
            · intro h5
              refine ⟨by omega, by omega, by omega, by omega, by assumption, by assumption, by omega, by omega, by omega, .inr h5⟩
            · rintro ⟨g1, g2, g3, g4, g5, g6, g7, g8, g9, g10⟩
              rcases g10 with g | g
              · simp_all
                done
              · exact g)
         | (simp only [decide_eq_decide, inB, decide_eq_true_eq, decide_eq_false_iff_not] at *; simp only [Bool.false_eq_true, false_iff]; rintro ⟨g1, g2, g3, g4, g5, g6, g7, g8, g9, g10⟩; first | omega | (simp_all; done) | (simp_all; omega)))
structure MFit (m : Mon) : Prop where
  nl : m.list.length ≤ 2000000
  nf : m.found.length ≤ 2000000
  a : ∀ x ∈ m.list, SFit x.a ∧ SFit x.b
theorem s_samePorts (a : Assoc) (x y : RV) (f t : Int) : Spec Tryz.prog 39 0 [] [a.av (.r x) (.r y), .i f, .i t] (fun r _ _ _ => r = .bo (pairB a f t)) := by
  refine mk39 rfl fun c hP hm => ?_
  unfold pc39 Assoc.av
  simp only [hm,go_sem,↓reduceIte]
  repeat' first | refine And.intro ?_ ?_ | intro _
  all_goals (apply bo_inj; unfold pairB; first | (rw [decide_eq_true (by omega)]; done) | (rw [decide_eq_false (by omega)]; done) | (simp [*]; done) | (rw [Bool.eq_iff_iff]; simp [*] <;> omega))
theorem s_l32Pair (a b : Assoc) (x y u v : RV) : Spec Tryz.prog 57 0 [] [a.av (.r x) (.r y), b.av (.r u) (.r v)] (fun r _ _ _ => r = .bo (pairB a b.fr b.to)) := by
  refine mk57 rfl fun c hP hm => ?_
  unfold pc57 Assoc.av
  simp only [hm,go_sem,↓reduceIte]
  repeat' first | refine And.intro ?_ ?_ | intro _
  all_goals (apply bo_inj; unfold pairB; first | (rw [decide_eq_true (by omega)]; done) | (rw [decide_eq_false (by omega)]; done) | (simp [*]; done) | (rw [Bool.eq_iff_iff]; simp [*] <;> omega))
theorem rowAt {l : List Fnd} {i : Nat} (h : i < l.length) : (l.map Fnd.row).getD i [] = (fndAt l i).row := by rw [getD_map h, fndAt_eq h]
theorem s_implFoundOk (l : List Fnd) (n : Int) : Spec Tryz.prog 64 0 [] [.r (.ro none (l.map Fnd.row)), .i n] (fun r _ _ _ => r = .bo (foundB n l)) := by
  refine mk64 rfl fun c hP hm => ?_
  unfold pc64
  simp only [hm,go_sem,↓reduceIte]
  intro hlen
  refine lp_wpc (α := Nat) (fun i => ⟨[(0, .r (.ro none (l.map Fnd.row))), (1, .i n), (7, .r (.ro none (l.map Fnd.row))), (8, .i l.length), (9, .i i)], [], 0, []⟩)
    (fun i => i ≤ l.length ∧ ∀ j, j < i → foundOne n l j = true) (fun i => l.length - i) 0 ⟨Nat.zero_le _, fun j hj => by omega⟩ (by (refine le_ev [] ?_; simp only [hm,go_sem,↓reduceIte]; first | done | rfl | exact ⟨rfl, rfl⟩)) ?_
  rintro i ⟨hi, hI⟩
  unfold pc64l0
  rcases Nat.lt_or_ge i l.length with hil | hil
  · have hw : IntKind.i64.wrap ((i : Int) + 1) = ((i + 1 : Nat) : Int) := by rw [wrap64 (by omega) (by omega)]; omega
    have hg := rowAt hil
    have hok : foundOne n l i = false → AV.r (RV.b false) = AV.bo (foundB n l) := fun h => by unfold foundB; rw [allB_false hil h]
    have hst : foundOne n l i = true → i + 1 ≤ l.length ∧ ∀ j, j < i + 1 → foundOne n l j = true := fun h => ⟨hil, fun j hj => by
      rcases Nat.lt_or_ge j i with h2 | h2
      · exact hI j h2
      · have : j = i := by omega
        rw [this]; exact h⟩
    have hg1 : 0 < i → (l.map Fnd.row).getD (i - 1) [] = (fndAt l (i - 1)).row := fun _ => rowAt (by omega)
    have hw1 : 0 < i → IntKind.i64.wrap ((i : Int) - 1) = ((i - 1 : Nat) : Int) := fun _ => by rw [wrap64 (by omega) (by omega)]; omega
    have hdef : foundOne n l i = (fndB n (fndAt l i) && (decide (i = 0) || lessB (fndAt l (i - 1)) (fndAt l i))) := rfl
    unfold fndB lessB inB at hdef
    generalize foundOne n l i = F at hok hst hdef
    generalize fndAt l i = f at hg hdef
    generalize fndAt l (i - 1) = e at hg1 hdef
    rcases Nat.eq_zero_or_pos i with h0 | h0
    · subst h0
      have hz : IntKind.i64.wrap ((0 : Int) + 1) = ((0 + 1 : Nat) : Int) := by decide
      simp only [Int.natCast_zero, Int.toNat_zero, hz, hg, Fnd.row, hm,go_sem,↓reduceIte]
      repeat' first | refine And.intro ?_ ?_ | intro _
      all_goals first
        | omega
        | (refine hok ?_; rw [hdef]; simp; omega)
        | (refine ⟨0 + 1, hst ?_, by omega, by (refine le_ev [] ?_; simp only [hm,go_sem,↓reduceIte]; first | done | rfl | exact ⟨rfl, rfl⟩)⟩; rw [hdef]; simp; omega)
    · have hne : ¬ i = 0 := by omega
      simp only [hne, decide_false, Bool.false_or] at hdef
      simp only [hw, hw1 h0, Int.toNat_natCast, hg, hg1 h0, Fnd.row, hm,go_sem,↓reduceIte]
      repeat' first | refine And.intro ?_ ?_ | intro _
      all_goals first
        | omega
        | (refine hok ?_; rw [hdef]; simp; omega)
        | (refine ⟨i + 1, hst ?_, by omega, by (refine le_ev [] ?_; simp only [hm,go_sem,↓reduceIte]; first | done | rfl | exact ⟨rfl, rfl⟩)⟩; rw [hdef]; simp; omega)
  · have : i = l.length := by omega
    subst this
    have hfin : foundB n l = true := allB_true hI
    simp only [hm,go_sem,↓reduceIte]
    repeat' first | refine And.intro ?_ ?_ | intro _
    all_goals first
      | omega
      | rw [hfin]
theorem arowAt {l : List Assoc} {i : Nat} (h : i < l.length) : (l.map Assoc.row).getD i [] = (assocAt l i).row := by rw [getD_map h, assocAt_eq h]
theorem take_at {l : List Assoc} {i k : Nat} (h : k < i) (hi : i ≤ l.length) : ((l.map Assoc.row).take i).getD k [] = (assocAt l k).row := by
  rw [List.getD_eq_getElem?_getD, List.getElem?_take, if_pos h, List.getElem?_map, List.getElem?_eq_getElem (by omega), assocAt_eq (by omega)]
  rfl
theorem lt_succ' {Q : Nat → Prop} {i : Nat} (h : ∀ j, j < i → Q j) (hi : Q i) : ∀ j, j < i + 1 → Q j := fun j hj => by
  rcases Nat.lt_or_ge j i with h2 | h2
  · exact h j h2
  · have : j = i := by omega
    rw [this]; exact hi
theorem lt_succ_all {p : Nat → Bool} {i : Nat} (h : ∀ j, j < i → p j = true) (hi : p i = true) : ∀ j, j < i + 1 → p j = true := fun j hj => by
  rcases Nat.lt_or_ge j i with h2 | h2
  · exact h j h2
  · have : j = i := by omega
    rw [this]; exact hi
theorem s_implMonitorValid (m : Mon) (hf : MFit m) : Spec Tryz.prog 36 0 [] [m.ro] (fun r _ _ _ => r = .bo (monB m)) := by
  refine mr36 rfl fun c hP hm => ?_
  unfold pc36 Mon.ro
  refine run_seq (run_wpc _ _ _ _ _ ?_)
  simp only [hm,go_sem,↓reduceIte]
  refine run_seq (run_wpc _ _ _ _ _ ?_)
  simp only [hm,go_sem,↓reduceIte]
  repeat' first | refine And.intro ?_ ?_ | intro _
  all_goals first
    | (apply bo_inj; unfold monB inB; simp; omega)
    | skip
  have hn3 : m.list.length ≤ 3 := by omega
  refine run_wpc _ _ _ _ _ ?_
  simp only [hm,go_sem,↓reduceIte]
  intro _
  refine run_exit 0 (fun t0 => t0 = ⟨[(1, .ptr 0 0 0)], [(0, .var [.i m.records, .r (.ro none (m.list.map Assoc.row)), .r (.ro none (m.found.map Fnd.row))])], 1, []⟩ ∧ listB m.list = true) ?_ ?_
  rotate_left
  · rintro t0 ⟨rfl, hL⟩
    simp only [hm,go_sem,↓reduceIte]
    refine call_pure (hP ▸ s_implFoundOk m.found m.records) rfl rfl ?_
    simp only [hm,go_sem,↓reduceIte]
    apply bo_inj
    unfold monB inB
    rw [hL]
    simp
    omega
  refine lp_wpc (α := Nat) (fun i => ⟨[(1, .ptr 0 0 0), (22, .r (.ro none (m.list.map Assoc.row))), (23, .i m.list.length), (24, .i i)], [(0, .var [.i m.records, .r (.ro none (m.list.map Assoc.row)), .r (.ro none (m.found.map Fnd.row))])], 1, []⟩)
    (fun i => i ≤ m.list.length ∧ ∀ j, j < i → listOne m.list j = true) (fun i => m.list.length - i) 0 ⟨Nat.zero_le _, fun j hj => by omega⟩ (by (refine le_ev [] ?_; simp only [hm,go_sem,↓reduceIte]; first | done | rfl | exact ⟨rfl, rfl⟩)) ?_
  rintro i ⟨hi, hI⟩
  unfold pc36l1
  rcases Nat.lt_or_ge i m.list.length with hil | hil
  · have hw : IntKind.i64.wrap ((i : Int) + 1) = ((i + 1 : Nat) : Int) := by rw [wrap64 (by omega) (by omega)]; omega
    have hg := arowAt hil
    have hok : listOne m.list i = false → AV.r (RV.b false) = AV.bo (monB m) := fun h => by unfold monB listB; rw [allB_false hil h]; simp
    have hst : listOne m.list i = true → i + 1 ≤ m.list.length ∧ ∀ j, j < i + 1 → listOne m.list j = true := fun h => ⟨hil, lt_succ_all hI h⟩
    obtain ⟨fa, fb⟩ := hf.a _ (List.getElem_mem hil)
    rw [← assocAt_eq hil] at fa fb
    simp only [Int.toNat_natCast, hg, Assoc.row, Assoc.cellsX, hm,go_sem,↓reduceIte]
    repeat' first | refine And.intro ?_ ?_ | intro _
    all_goals first
      | omega
      | rfl
      | skip
    refine call_pure (hP ▸ s_implAssocValid (assocAt m.list i) fa fb) rfl rfl ?_
    simp only [Int.toNat_natCast, hg, Assoc.row, Assoc.cellsX, hm,go_sem,↓reduceIte]
    repeat' first | refine And.intro ?_ ?_ | intro _
    all_goals first
      | omega
      | rfl
      | (refine hok ?_; simp [listOne, *]; done)
      | (rename_i hr; obtain ⟨_, _, rfl⟩ := List.mem_map.1 hr; rfl)
      | skip
    rename_i hav hs0 _
    have htl : (List.take i (m.list.map Assoc.row)).length = i := by rw [List.length_take, List.length_map]; omega
    rw [htl]
    refine lp_wpc (α := Nat) (fun k => ⟨[(1, .ptr 0 0 0), (4, .ptr 1 0 0), (22, .r (.ro none (m.list.map Assoc.row))), (23, .i m.list.length), (24, .i i), (40, .r (.ro none ((m.list.map Assoc.row).take i))), (41, .i i), (42, .i k)], [(0, .var [.i m.records, .r (.ro none (m.list.map Assoc.row)), .r (.ro none (m.found.map Fnd.row))]), (1, .var ((assocAt m.list i).row.map .r))], 2, []⟩)
      (fun k => k ≤ i ∧ ∀ j, j < k → pairB (assocAt m.list j) (assocAt m.list i).fr (assocAt m.list i).to = false) (fun k => i - k) 0 ⟨Nat.zero_le _, fun j hj => by omega⟩ (by simp only [Assoc.row, Assoc.cellsX, List.map_cons, List.map_nil]; (refine le_ev [] ?_; simp only [hm,go_sem,↓reduceIte]; first | done | rfl | exact ⟨rfl, rfl⟩)) ?_
    rintro k ⟨hk, hK⟩
    unfold pc36l0
    rcases Nat.lt_or_ge k i with hki | hki
    · have hwk : IntKind.i64.wrap ((k : Int) + 1) = ((k + 1 : Nat) : Int) := by rw [wrap64 (by omega) (by omega)]; omega
      have hgk := take_at hki hi
      simp only [Int.toNat_natCast, htl, hgk, Assoc.row, Assoc.cellsX, List.map_cons, List.map_nil, hm,go_sem,↓reduceIte]
      repeat' first | refine And.intro ?_ ?_ | intro _
      all_goals first
        | omega
        | rfl
        | skip
      refine call_pure (hP ▸ s_samePorts (assocAt m.list k) _ _ _ _) rfl rfl ?_
      simp only [Int.toNat_natCast, htl, hgk, Assoc.row, Assoc.cellsX, hwk, hm,go_sem,↓reduceIte]
      repeat' first | refine And.intro ?_ ?_ | intro _
      all_goals first
        | omega
        | (rename_i hpp; refine hok ?_; have := allB_false (p := fun k => !pairB (assocAt m.list k) (assocAt m.list i).fr (assocAt m.list i).to) hki (by simp [hpp]); simp [listOne, this]; done)
        | (rename_i hpp; refine ⟨k + 1, ⟨hki, lt_succ' hK hpp⟩, by omega, ?_⟩; (refine le_ev [] ?_; simp only [hm,go_sem,↓reduceIte]; first | done | rfl | exact ⟨rfl, rfl⟩))
    · have : k = i := by omega
      subst this
      have hall : allB k (fun j => !pairB (assocAt m.list j) (assocAt m.list k).fr (assocAt m.list k).to) = true := allB_true fun j hj => by rw [hK j hj]; rfl
      simp only [hw, hm,go_sem,↓reduceIte]
      repeat' first | refine And.intro ?_ ?_ | intro _
      all_goals first
        | omega
        | (refine ⟨k + 1, hst ?_, by omega, ?_⟩
           · simp [listOne, *]
           · (refine le_ev [] ?_; simp only [hm,go_sem,↓reduceIte]; first | done | rfl | exact ⟨rfl, rfl⟩))
  · have : i = m.list.length := by omega
    subst this
    have hfin : listB m.list = true := allB_true hI
    simp only [hm,go_sem,↓reduceIte]
    repeat' first | refine And.intro ?_ ?_ | intro _
    all_goals first
      | omega
      | (refine ⟨_, ⟨rfl, hfin⟩, ?_⟩; (refine le_ev [] ?_; simp only [hm,go_sem,↓reduceIte]; first | done | rfl | exact ⟨rfl, rfl⟩))
theorem findIx_some {f t : Int} : ∀ {l : List Assoc} {i : Nat}, i < l.length → (∀ j, j < i → pairB (assocAt l j) f t = false) → pairB (assocAt l i) f t = true → findIx f t l = some i
  | [], i, h, _, _ => by simp at h
  | a :: l, 0, h, _, hp => by rw [findIx, if_pos (by simpa [assocAt] using hp)]
  | a :: l, i + 1, h, hj, hp => by
    have h0 := hj 0 (by omega)
    rw [findIx, if_neg (by simpa [assocAt] using h0), findIx_some (l := l) (i := i) (by simpa using h) (fun j hj' => by simpa [assocAt] using hj (j + 1) (by omega)) (by simpa [assocAt] using hp)]
    rfl
theorem findIx_none {f t : Int} : ∀ {l : List Assoc}, (∀ j, j < l.length → pairB (assocAt l j) f t = false) → findIx f t l = none
  | [], _ => rfl
  | a :: l, hj => by
    have h0 := hj 0 (by simp)
    rw [findIx, if_neg (by simpa [assocAt] using h0), findIx_none (l := l) (fun j hj' => by simpa [assocAt] using hj (j + 1) (by simpa using hj'))]
    rfl
theorem findIx_lt {f t : Int} : ∀ {l : List Assoc} {i : Nat}, findIx f t l = some i → i < l.length ∧ pairB (assocAt l i) f t = true
  | [], i, h => by cases h
  | a :: l, i, h => by
    rw [findIx] at h
    split at h
    · rename_i hp
      cases h
      exact ⟨by simp, by simpa [assocAt] using hp⟩
    · cases hf : findIx f t l with
      | none => rw [hf] at h; cases h
      | some k =>
        rw [hf] at h
        cases h
        obtain ⟨h1, h2⟩ := findIx_lt hf
        exact ⟨by simpa using h1, by simpa [assocAt] using h2⟩
def ixOr (o : Option Nat) : Int := match o with | some k => k | none => -1
theorem s_l32Find (m : Mon) (f t : Int) (hl : m.list.length ≤ 2000000) : Spec Tryz.prog 46 0 [] [m.ro, .i f, .i t] (fun r _ _ _ => r = .i (ixOr (findIx f t m.list))) := by
  refine mk46 rfl fun c hP hm => ?_
  unfold pc46 Mon.ro
  simp only [hm,go_sem,↓reduceIte]
  refine lp_wpc (α := Nat) (fun i => ⟨[(1, .i f), (2, .i t), (3, .ptr 0 0 0), (7, .i i)], [(0, .var [.i m.records, .r (.ro none (m.list.map Assoc.row)), .r (.ro none (m.found.map Fnd.row))])], 1, []⟩)
    (fun i => i ≤ m.list.length ∧ ∀ j, j < i → pairB (assocAt m.list j) f t = false) (fun i => m.list.length - i) 0 ⟨Nat.zero_le _, fun j hj => by omega⟩ (by (refine le_ev [] ?_; simp only [hm,go_sem,↓reduceIte]; first | done | rfl | exact ⟨rfl, rfl⟩)) ?_
  rintro i ⟨hi, hI⟩
  unfold pc46l0
  rcases Nat.lt_or_ge i m.list.length with hil | hil
  · have hw : IntKind.i64.wrap ((i : Int) + 1) = ((i + 1 : Nat) : Int) := by rw [wrap64 (by omega) (by omega)]; omega
    have hg := arowAt hil
    simp only [hw, Int.toNat_natCast, hg, Assoc.row, Assoc.cellsX, hm,go_sem,↓reduceIte]
    repeat' first | refine And.intro ?_ ?_ | intro _ | (refine call_pure (hP ▸ s_l32Pair (assocAt m.list i) ⟨f, t, 0, false, noSide, noSide⟩ _ _ .nil .nil) rfl rfl ?_; simp only [hw, Int.toNat_natCast, hg, Assoc.row, Assoc.cellsX, hm,go_sem,↓reduceIte])
    all_goals first
      | omega
      | rfl
      | (rename_i hp; rw [findIx_some hil hI hp]; rfl)
      | (rename_i hp; refine ⟨i + 1, ⟨hil, lt_succ' hI hp⟩, by omega, ?_⟩; (refine le_ev [] ?_; simp only [hm,go_sem,↓reduceIte]; first | done | rfl | exact ⟨rfl, rfl⟩))
  · have : i = m.list.length := by omega
    subst this
    simp only [hm,go_sem,↓reduceIte]
    repeat' first | refine And.intro ?_ ?_ | intro _
    all_goals first
      | omega
      | (rw [findIx_none hI]; rfl)
def digits (n : Nat) (acc : List UInt8) : List UInt8 := if h : n = 0 then acc else digits (n / 10) (UInt8.ofNat (48 + n % 10) :: acc)
termination_by n
decreasing_by omega
theorem digits_zero (acc : List UInt8) : digits 0 acc = acc := by rw [digits]; rfl
theorem digits_pos {n : Nat} (h : n ≠ 0) (acc : List UInt8) : digits n acc = digits (n / 10) (UInt8.ofNat (48 + n % 10) :: acc) := by rw [digits, dif_neg h]
theorem digits_len (n : Nat) : ∀ acc, (digits n acc).length ≤ n + acc.length := by
  induction n using Nat.strongRecOn with
  | _ n ih =>
    intro acc
    by_cases h : n = 0
    · subst h; rw [digits_zero]; omega
    · rw [digits_pos h]
      refine Nat.le_trans (ih (n / 10) (by omega) _) ?_
      rw [List.length_cons]; omega
def markT (n : Int) : List UInt8 := if n ≤ 0 then [109, 48] else 109 :: digits n.toNat []
theorem tmod_nat (a b : Nat) : ((a : Int).tmod (b : Int)) = ((a % b : Nat) : Int) := rfl
theorem tdiv_nat (a b : Nat) : ((a : Int).tdiv (b : Int)) = ((a / b : Nat) : Int) := rfl
theorem s_markText (n : Int) (hn : n ≤ 1000000000) : Spec Tryz.prog 26 0 [] [.i n] (fun r _ _ _ => r = .st (markT n)) := by
  refine mk26 rfl fun c hP hm => ?_
  unfold pc26 markT
  simp only [go_sem, ↓reduceIte]
  refine ⟨fun h => ?_, fun h => ?_⟩
  · rw [if_pos h]
  · rw [if_neg (by omega)]
    obtain ⟨k, rfl⟩ := Int.eq_ofNat_of_zero_le (a := n) (by omega)
    refine run_exit 0 (fun t0 => t0 = ⟨[(3, .st (digits k []))], [], 0, []⟩) ?_ (fun t0 h => by rw [h]; simp only [go_sem, ↓reduceIte]; have := digits_len k []; simp only [List.length_nil] at this; exact ⟨by omega, by rw [Int.toNat_natCast]⟩)
    refine lp_wpc (α := Nat × List UInt8) (fun y => ⟨[(0, .i y.1), (3, .st y.2)], [], 0, []⟩) (fun y => y.2.length + y.1 ≤ k ∧ digits y.1 y.2 = digits k []) (fun y => y.1) (k, []) ⟨by simp, rfl⟩ (le_eq (by simp)) ?_
    rintro ⟨j, acc⟩ ⟨h1, h2⟩
    unfold pc26l0
    simp only at h1 h2
    simp only [go_sem, ↓reduceIte]
    have e10 : (10 : Int) = ((10 : Nat) : Int) := rfl
    rw [e10, tmod_nat, tdiv_nat]
    rw [wrap64 (x := 48 + ((j % 10 : Nat) : Int)) (by omega) (by omega), wrap64 (x := ((j / 10 : Nat) : Int)) (by omega) (by omega), wrapU8 (by omega) (by omega)]
    refine ⟨fun hlt => ⟨?_, by omega, (j / 10, UInt8.ofNat (48 + j % 10) :: acc), ⟨?_, ?_⟩, ?_, ?_⟩, fun hge => ?_⟩
    · rintro r rfl; exact ⟨_, rfl⟩
    · simp only [List.length_cons]; omega
    · rw [← h2, digits_pos (n := j) (by omega)]
    · simp only; omega
    · have eb : byteOf [.n .u8 (48 + ((j % 10 : Nat) : Int))] = UInt8.ofNat (48 + j % 10) := by
        show UInt8.ofNat (48 + ((j % 10 : Nat) : Int)).toNat = _
        congr 1
      rw [eb]
      exact le_ev [] (by simp only [hm,go_sem,↓reduceIte])
    · have : j = 0 := by omega
      subst this
      rw [digits_zero] at h2
      rw [← h2]
      exact ⟨_, rfl, le_ev [] (by simp only [hm,go_sem,↓reduceIte])⟩
def div3 (n : Int) : Bool := n.tmod 3 == 0
def markData (n : Int) : Data := ⟨n, n + 1, n + 2, div3 (n + 3), div3 (n + 4), div3 (n + 5), markT (n + 6)⟩
def marks {α : Type} (f : Int → α) (w : Int) (k : Nat) (n : Int) : List α := (List.range k).map fun (i : Nat) => f (n + w * (i : Int))
theorem marks_len {α : Type} (f : Int → α) (w : Int) (k : Nat) (n : Int) : (marks f w k n).length = k := by simp [marks]
theorem marks_succ {α : Type} (f : Int → α) (w : Int) (k : Nat) (n : Int) : marks f w (k + 1) n = marks f w k n ++ [f (n + w * k)] := by simp [marks, List.range_succ]
theorem marks_get {α : Type} (f : Int → α) (w : Int) {k i : Nat} (n : Int) (h : i < k) : (marks f w k n)[i]? = some (f (n + w * i)) := by simp [marks, h]
theorem s_markDataS (l : List Data) (n : Int) (hn : 0 ≤ n ∧ n ≤ 100000000) (hl : l.length ≤ 4000000) : Spec Tryz.prog 53 1 [(0, .row 7 (l.map Data.row))] [.sl 0 0 l.length, .i n] (Named fun r B => r = .i (n + 7 * l.length) ∧ B = .row 7 ((marks markData 7 l.length n).map Data.row)) := by
  refine Spec.named ?_
  refine mk53 rfl fun c hP hm => ?_
  unfold pc53
  simp only [go_sem, ↓reduceIte]
  refine run_exit 0 (fun t0 => t0 = ⟨[(1, .i (n + 7 * l.length))], [(0, .row 7 ((marks markData 7 l.length n).map Data.row))], 1, []⟩) ?_ (fun t0 h => by rw [h]; simp only [go_sem, ↓reduceIte]; exact ⟨_, rfl, rfl, rfl⟩)
  refine lp_wpc (α := Nat) (fun i => ⟨[(0, .sl 0 0 l.length), (1, .i (n + 7 * i)), (5, .i i)], [(0, .row 7 ((marks markData 7 i n).map Data.row ++ (l.drop i).map Data.row))], 1, []⟩) (fun i => i ≤ l.length) (fun i => l.length - i) 0 (Nat.zero_le _) (le_eq (by simp [marks])) ?_
  intro i hi
  unfold pc53l0
  rcases Nat.lt_or_ge i l.length with hil | hil
  · have hM : ((marks markData 7 i n).map Data.row).length = i := by rw [List.length_map, marks_len]
    have hA := congrArg (List.map Data.row) (marks_succ markData 7 i n)
    rw [List.map_append, List.map_cons, List.map_nil] at hA
    rw [mid_drop hil]
    generalize (marks markData 7 i n).map Data.row = A at hM hA
    have hBl : ((l.drop (i + 1)).map Data.row).length = l.length - (i + 1) := by simp
    generalize hB : (l.drop (i + 1)).map Data.row = B at hBl
    simp only [Int.toNat_natCast, mid_get hM, mid_set hM, mid_len, Data.row,go_sem,↓reduceIte]
    simp (disch := omega) only [wrap64]
    intro _
    refine ⟨fun hlt => ?_, fun hge => absurd hge (by omega)⟩
    repeat' refine And.intro ?_ ?_
    all_goals first
      | omega
      | (refine call_pure (hP ▸ s_markText _ (by omega)) rfl rfl ?_
         simp only [Int.toNat_natCast, mid_get hM, mid_set hM, mid_len,go_sem,↓reduceIte]
         simp (disch := omega) only [wrap64]
         refine ⟨⟨by omega, by omega⟩, by omega, i + 1, hil, by omega, le_ev [] ?_⟩
         rw [hA, hB]
         simp only [hm, markData, div3, Data.row, List.append_assoc, Int.natCast_add, Int.mul_add, Int.add_assoc, Int.reduceAdd,go_sem,↓reduceIte]
         rfl)
  · have : i = l.length := by omega
    subst this
    simp only [go_sem, ↓reduceIte]
    exact fun _ => ⟨_, rfl, le_ev [] (by simp only [hm, List.drop_length,go_sem,↓reduceIte])⟩
theorem s_heldDataS (k : Nat) (n : Int) (hn : 0 ≤ n ∧ n ≤ 100000000) (hk : k ≤ 1000000) : Spec Tryz.prog 54 0 [] [.r (.ro none ((marks markData 7 k n).map Data.row)), .i n] (fun r _ _ _ => r = .i (n + 7 * k)) := by
  refine mk54 rfl fun c hP hm => ?_
  unfold pc54
  simp only [go_sem, ↓reduceIte]
  have hlen : (marks markData 7 k n).length = k := marks_len ..
  refine lp_wpc (α := Nat) (fun i => ⟨[(0, .r (.ro none ((marks markData 7 k n).map Data.row))), (1, .i (n + 7 * i)), (5, .i i)], [], 0, []⟩) (fun i => i ≤ k) (fun i => k - i) 0 (Nat.zero_le _) (le_eq (by simp)) ?_
  intro i hi
  unfold pc54l0
  rcases Nat.lt_or_ge i k with hik | hik
  · have hil : i < (marks markData 7 k n).length := by omega
    have hg : (marks markData 7 k n)[i] = markData (n + 7 * i) := by
      have := marks_get markData 7 n hik
      rw [List.getElem?_eq_getElem hil] at this
      exact Option.some.inj this
    simp only [Int.toNat_natCast, getD_map hil, hg, hlen, markData, Data.row,go_sem,↓reduceIte]
    simp (disch := omega) only [wrap64]
    simp only [div3, Int.add_assoc, Int.reduceAdd,go_sem,↓reduceIte]
    intro _
    refine ⟨fun hlt => ?_, fun hge => absurd hge (by omega)⟩
    repeat' refine And.intro ?_ ?_
    all_goals first
      | omega
      | (refine call_pure (hP ▸ s_markText _ (by omega)) rfl rfl ?_
         simp only [Int.toNat_natCast, getD_map hil, hg, markData, div3, Data.row, Int.add_assoc, Int.reduceAdd,go_sem,↓reduceIte]
         simp (disch := omega) only [wrap64]
         repeat' refine And.intro ?_ ?_
         all_goals first
           | omega
           | exact ⟨i + 1, hik, by omega, le_eq (by simp only [Int.natCast_add, Int.mul_add, Int.add_assoc, Int.reduceAdd]; rfl)⟩)
  · have : i = k := by omega
    subst this
    simp only [hlen,go_sem,↓reduceIte]
theorem s_eqData (x : Data) : Spec Tryz.prog 119 0 [] [x.av, x.av] (fun r _ _ _ => r = .bo true) := by
  refine mk119 rfl fun c hP hm => ?_
  unfold pc119 Data.av
  simp only [go_sem, ↓reduceIte]
theorem s_eqDataS (l : List Data) : Spec Tryz.prog 100 0 [] [.r (.ro none (l.map Data.row)), .r (.ro none (l.map Data.row))] (fun r _ _ _ => r = .bo true) := by
  refine mk100 rfl fun c hP hm => ?_
  unfold pc100
  simp only [go_sem, ↓reduceIte]
  intro hlen _
  refine lp_wpc (α := Nat) (fun i => ⟨[(0, .r (.ro none (l.map Data.row))), (1, .r (.ro none (l.map Data.row))), (5, .i i)], [], 0, []⟩) (fun i => i ≤ l.length) (fun i => l.length - i) 0 (Nat.zero_le _) (Le.refl _) ?_
  intro i hi
  unfold pc100l0
  simp only [go_sem, ↓reduceIte]
  intro _
  intro hlt
  have hil : i < l.length := by omega
  simp only [Int.toNat_natCast, getD_map hil, Data.row,go_sem,↓reduceIte]
  refine ⟨⟨by omega, by omega⟩, ⟨by omega, by omega⟩, ?_⟩
  refine call_pure (hP ▸ s_eqData l[i]) rfl rfl ?_
  simp only [go_sem, ↓reduceIte]
  rw [wrap64 (by omega) (by omega)]
  exact ⟨i + 1, hil, by omega, Le.refl _⟩
theorem s_eqSide (s : Side) : Spec Tryz.prog 81 0 [] [s.ro, s.ro] (fun r _ _ _ => r = .bo true) := by
  refine mk81 rfl fun c hP hm => ?_
  unfold pc81 Side.ro Side.av
  simp only [go_sem, ↓reduceIte]
  refine call_pure (hP ▸ s_eqDataS s.sent) rfl rfl ?_
  simp only [go_sem, ↓reduceIte]
@[go_sem] theorem frzPH_rd (b n0 j : Nat) (code : List UInt8) (p : Int) (l : List (Nat × Blk)) : frzPH b n0 ((j, rdB code p) :: l) = (True ∧ frzPH b n0 l) := by
  simp only [rdB, frzPH, frzPB, frzP.frzPL, frzP, and_self]
@[go_sem] theorem frzH_rd (b : Nat) (L : List (List RV)) (j : Nat) (code : List UInt8) (p : Int) (l : List (Nat × Blk)) : frzH b L ((j, rdB code p) :: l) = (j, rdB code p) :: frzH b L l := (rfl)
def ixI : Option Nat → Int
  | some i => i
  | none => -1
structure Asm where
  next : List Int
  parts : List Data
def intRow (n : Int) : List RV := [.n .i64 n]
def Asm.ro (a : Asm) : AV := .agg [.r (.ro none (a.next.map intRow)), .r (.ro none (a.parts.map Data.row))]
def takenR (p : List Nat) : List RV := (List.range 13).map fun j => .b (decide (j ∈ p))
@[go_sem] theorem takenR_len (p : List Nat) : (takenR p).length = 13 := by simp [takenR]
theorem data_ok {d : Data} (h : dataB d = true) : (0 ≤ d.tsn ∧ d.tsn < 65536) ∧ (0 ≤ d.stream ∧ d.stream < 65536) ∧ (0 ≤ d.ssn ∧ d.ssn < 65536) ∧ 1 ≤ d.text.length ∧ d.text.length ≤ 20 := by
  simp only [dataB, serialB, Bool.and_eq_true, decide_eq_true_eq] at h
  exact ⟨h.1.1.1, h.1.1.2, h.1.2, h.2.1, h.2.2⟩
end Go.Cap
namespace Go.Cap
def d0 : Data := ⟨0, 0, 0, false, false, false, []⟩
def hd (g : List Data) : Data := g.headD d0
section
variable {gs : List (List Data)} {n : Nat} {arr : List Data} {a : Asm} {ms : List Msg} {T : List (List Data)}
end
end Go.Cap
namespace Go.Cap
attribute [local irreducible] Call Run Spec Le
theorem s_eqAssoc (a : Assoc) : Spec Tryz.prog 51 0 [] [a.ro, a.ro] (fun r _ _ _ => r = .bo true) := by
  refine mk51 rfl fun c hP hm => ?_
  unfold pc51 Assoc.ro Assoc.av
  simp only [hm,go_sem,↓reduceIte]
  refine call_pure (hP ▸ s_eqSide a.a) rfl rfl ?_
  simp only [hm,go_sem,↓reduceIte]
  refine call_pure (hP ▸ s_eqSide a.b) rfl rfl ?_
  simp only [hm,go_sem,↓reduceIte]
theorem s_eqFinding (a : Fnd) : Spec Tryz.prog 52 0 [] [a.av, a.av] (fun r _ _ _ => r = .bo true) := by
  refine mk52 rfl fun c hP hm => ?_
  unfold pc52 Fnd.av
  simp only [hm,go_sem,↓reduceIte]
theorem s_eqAssocS (l : List Assoc) : Spec Tryz.prog 23 0 [] [.r (.ro none (l.map Assoc.row)), .r (.ro none (l.map Assoc.row))] (fun r _ _ _ => r = .bo true) := by
  refine mk23 rfl fun c hP hm => ?_
  unfold pc23
  simp only [hm,go_sem,↓reduceIte]
  intro hlen _
  refine lp_wpc (α := Nat) (fun i => ⟨[(0, .r (.ro none (l.map Assoc.row))), (1, .r (.ro none (l.map Assoc.row))), (5, .i i)], [], 0, []⟩) (fun i => i ≤ l.length) (fun i => l.length - i) 0 (Nat.zero_le _) (by (refine le_ev [] ?_; simp only [hm,go_sem,↓reduceIte]; first | done | rfl | exact ⟨rfl, rfl⟩)) ?_
  intro i hi
  unfold pc23l0
  rcases Nat.lt_or_ge i l.length with hil | hil
  · have hw : IntKind.i64.wrap ((i : Int) + 1) = ((i + 1 : Nat) : Int) := by rw [wrap64 (by omega) (by omega)]; omega
    simp only [hw, Int.toNat_natCast, getD_map hil, Assoc.row, Assoc.cellsX, hm,go_sem,↓reduceIte]
    repeat' first | refine And.intro ?_ ?_ | intro _ | (refine call_pure (hP ▸ s_eqAssoc l[i]) rfl rfl ?_; simp only [hw, Int.toNat_natCast, getD_map hil, Assoc.row, Assoc.cellsX, hm,go_sem,↓reduceIte])
    all_goals first
      | omega
      | rfl
      | (refine ⟨i + 1, hil, by omega, ?_⟩; (refine le_ev [] ?_; simp only [hm,go_sem,↓reduceIte]; first | done | rfl | exact ⟨rfl, rfl⟩))
  · have : i = l.length := by omega
    subst this
    simp only [hm,go_sem,↓reduceIte]
    repeat' first | refine And.intro ?_ ?_ | intro _
    all_goals first
      | omega
      | rfl
theorem s_eqFindingS (l : List Fnd) : Spec Tryz.prog 24 0 [] [.r (.ro none (l.map Fnd.row)), .r (.ro none (l.map Fnd.row))] (fun r _ _ _ => r = .bo true) := by
  refine mk24 rfl fun c hP hm => ?_
  unfold pc24
  simp only [hm,go_sem,↓reduceIte]
  intro hlen _
  refine lp_wpc (α := Nat) (fun i => ⟨[(0, .r (.ro none (l.map Fnd.row))), (1, .r (.ro none (l.map Fnd.row))), (5, .i i)], [], 0, []⟩) (fun i => i ≤ l.length) (fun i => l.length - i) 0 (Nat.zero_le _) (by (refine le_ev [] ?_; simp only [hm,go_sem,↓reduceIte]; first | done | rfl | exact ⟨rfl, rfl⟩)) ?_
  intro i hi
  unfold pc24l0
  rcases Nat.lt_or_ge i l.length with hil | hil
  · have hw : IntKind.i64.wrap ((i : Int) + 1) = ((i + 1 : Nat) : Int) := by rw [wrap64 (by omega) (by omega)]; omega
    simp only [hw, Int.toNat_natCast, getD_map hil, Fnd.row, hm,go_sem,↓reduceIte]
    repeat' first | refine And.intro ?_ ?_ | intro _ | (refine call_pure (hP ▸ s_eqFinding l[i]) rfl rfl ?_; simp only [hw, Int.toNat_natCast, getD_map hil, Fnd.row, hm,go_sem,↓reduceIte])
    all_goals first
      | omega
      | rfl
      | (refine ⟨i + 1, hil, by omega, ?_⟩; (refine le_ev [] ?_; simp only [hm,go_sem,↓reduceIte]; first | done | rfl | exact ⟨rfl, rfl⟩))
  · have : i = l.length := by omega
    subst this
    simp only [hm,go_sem,↓reduceIte]
    repeat' first | refine And.intro ?_ ?_ | intro _
    all_goals first
      | omega
      | rfl
theorem s_eqMonitor (m : Mon) : Spec Tryz.prog 9 0 [] [m.ro, m.ro] (fun r _ _ _ => r = .bo true) := by
  refine mk9 rfl fun c hP hm => ?_
  unfold pc9 Mon.ro
  simp only [hm,go_sem,↓reduceIte]
  refine call_pure (hP ▸ s_eqAssocS m.list) rfl rfl ?_
  simp only [hm,go_sem,↓reduceIte]
  refine call_pure (hP ▸ s_eqFindingS m.found) rfl rfl ?_
  simp only [hm,go_sem,↓reduceIte]
def markFnd (n : Int) : Fnd := ⟨n, n + 1⟩
theorem s_markFindingS (l : List Fnd) (n : Int) (hn : 0 ≤ n ∧ n ≤ 100000000) (hl : l.length ≤ 4000000) : Spec Tryz.prog 28 1 [(0, .row 2 (l.map Fnd.row))] [.sl 0 0 l.length, .i n] (Named fun r B => r = .i (n + 2 * l.length) ∧ B = .row 2 ((marks markFnd 2 l.length n).map Fnd.row)) := by
  refine Spec.named ?_
  refine mk28 rfl fun c hP hm => ?_
  unfold pc28
  simp only [go_sem, ↓reduceIte]
  refine run_exit 0 (fun t0 => t0 = ⟨[(1, .i (n + 2 * l.length))], [(0, .row 2 ((marks markFnd 2 l.length n).map Fnd.row))], 1, []⟩) ?_ (fun t0 h => by rw [h]; simp only [go_sem, ↓reduceIte]; exact ⟨_, rfl, rfl, rfl⟩)
  refine lp_wpc (α := Nat) (fun i => ⟨[(0, .sl 0 0 l.length), (1, .i (n + 2 * i)), (5, .i i)], [(0, .row 2 ((marks markFnd 2 i n).map Fnd.row ++ (l.drop i).map Fnd.row))], 1, []⟩) (fun i => i ≤ l.length) (fun i => l.length - i) 0 (Nat.zero_le _) (le_eq (by simp [marks])) ?_
  intro i hi
  unfold pc28l0
  rcases Nat.lt_or_ge i l.length with hil | hil
  · have hM : ((marks markFnd 2 i n).map Fnd.row).length = i := by rw [List.length_map, marks_len]
    have hA := congrArg (List.map Fnd.row) (marks_succ markFnd 2 i n)
    rw [List.map_append, List.map_cons, List.map_nil] at hA
    rw [mid_drop hil]
    generalize (marks markFnd 2 i n).map Fnd.row = A at hM hA
    have hBl : ((l.drop (i + 1)).map Fnd.row).length = l.length - (i + 1) := by simp
    generalize hB : (l.drop (i + 1)).map Fnd.row = B at hBl
    simp only [Int.toNat_natCast, mid_get hM, mid_set hM, mid_len, Fnd.row,go_sem,↓reduceIte]
    simp (disch := omega) only [wrap64]
    intro _
    refine ⟨fun hlt => ?_, fun hge => absurd hge (by omega)⟩
    repeat' refine And.intro ?_ ?_
    all_goals first
      | omega
      | (refine ⟨i + 1, hil, by omega, le_ev [] ?_⟩
         rw [hA, hB]
         simp only [hm, markFnd, Fnd.row, List.append_assoc, Int.natCast_add, Int.mul_add, Int.add_assoc, Int.reduceAdd,go_sem,↓reduceIte]
         first | done | rfl)
  · have : i = l.length := by omega
    subst this
    simp only [go_sem, ↓reduceIte]
    exact fun _ => ⟨_, rfl, le_ev [] (by simp only [hm, List.drop_length,go_sem,↓reduceIte])⟩
theorem s_markFindingS_nil (n : Int) : Spec Tryz.prog 28 0 [] [.r .nil, .i n] (fun r _ _ _ => r = .i n) := by
  refine mk28 rfl fun c hP hm => ?_
  unfold pc28
  simp only [go_sem, ↓reduceIte]
  refine lp_wpc (α := Unit) (fun _ => ⟨[(0, .r .nil), (1, .i n), (5, .i 0)], [], 0, []⟩) (fun _ => True) (fun _ => 0) () trivial (Le.refl _) ?_
  intro i hi
  unfold pc28l0
  simp only [go_sem, ↓reduceIte]
theorem s_heldFindingS (k : Nat) (n : Int) (hn : 0 ≤ n ∧ n ≤ 100000000) (hk : k ≤ 2000000) : Spec Tryz.prog 30 0 [] [.r (.ro none ((marks markFnd 2 k n).map Fnd.row)), .i n] (fun r _ _ _ => r = .i (n + 2 * k)) := by
  refine mk30 rfl fun c hP hm => ?_
  unfold pc30
  simp only [go_sem, ↓reduceIte]
  have hlen : (marks markFnd 2 k n).length = k := marks_len ..
  refine lp_wpc (α := Nat) (fun i => ⟨[(0, .r (.ro none ((marks markFnd 2 k n).map Fnd.row))), (1, .i (n + 2 * i)), (5, .i i)], [], 0, []⟩) (fun i => i ≤ k) (fun i => k - i) 0 (Nat.zero_le _) (le_eq (by simp)) ?_
  intro i hi
  unfold pc30l0
  rcases Nat.lt_or_ge i k with hik | hik
  · have hil : i < (marks markFnd 2 k n).length := by omega
    have hg : (marks markFnd 2 k n)[i] = markFnd (n + 2 * i) := by
      have := marks_get markFnd 2 n hik
      rw [List.getElem?_eq_getElem hil] at this
      exact Option.some.inj this
    simp only [Int.toNat_natCast, getD_map hil, hg, hlen, markFnd, Fnd.row,go_sem,↓reduceIte]
    simp (disch := omega) only [wrap64]
    repeat' first | refine And.intro ?_ ?_ | intro _
    all_goals first
      | omega
      | (exfalso; omega)
      | (refine ⟨i + 1, hik, by omega, le_eq ?_⟩
         simp only [Int.natCast_add, Int.mul_add, Int.add_assoc, Int.reduceAdd]
         first | done | rfl)
      | (rename_i hx; exact absurd trivial hx)
  · have : i = k := by omega
    subst this
    simp only [hlen,go_sem,↓reduceIte]
def markAssocG (s : Nat × Nat) (n : Int) : Assoc := ⟨n, n + 1, n + 2, div3 (n + 3), ⟨n + 4, n + 5, n + 6, marks markData 7 s.1 (n + 7), n + 7 + 7 * s.1⟩, ⟨n + 8 + 7 * s.1, n + 9 + 7 * s.1, n + 10 + 7 * s.1, marks markData 7 s.2 (n + 11 + 7 * s.1), n + 11 + 7 * s.1 + 7 * s.2⟩⟩
def wd (s : Nat × Nat) : Int := 12 + 7 * s.1 + 7 * s.2
def markAs : List (Nat × Nat) → Int → List Assoc
  | [], _ => []
  | s :: l, n => markAssocG s n :: markAs l (n + wd s)
def offs : List (Nat × Nat) → Int
  | [] => 0
  | s :: l => wd s + offs l
theorem markAs_len : ∀ (l : List (Nat × Nat)) (n : Int), (markAs l n).length = l.length
  | [], _ => rfl
  | s :: l, n => by simp only [markAs, List.length_cons, markAs_len l]
theorem markAs_get : ∀ {l : List (Nat × Nat)} {i : Nat} (n : Int) (h : i < l.length), (markAs l n)[i]? = some (markAssocG l[i] (n + offs (l.take i)))
  | s :: l, 0, n, _ => by simp only [markAs, List.getElem?_cons_zero, List.getElem_cons_zero, List.take_zero, offs, Int.add_zero]
  | s :: l, i + 1, n, h => by
    simp only [markAs, List.getElem?_cons_succ, List.getElem_cons_succ, List.take_succ_cons, offs]
    rw [markAs_get (n + wd s) (by simpa using h), Int.add_assoc]
theorem offs_snoc : ∀ (l : List (Nat × Nat)) (s : Nat × Nat), offs (l ++ [s]) = offs l + wd s
  | [], s => by simp only [List.nil_append, offs]; omega
  | t :: l, s => by simp only [List.cons_append, offs, offs_snoc l s]; omega
theorem offs_nn : ∀ (l : List (Nat × Nat)), 0 ≤ offs l
  | [] => Int.le_refl _
  | s :: l => by have := offs_nn l; simp only [offs, wd]; omega
theorem offs_app : ∀ (a b : List (Nat × Nat)), offs (a ++ b) = offs a + offs b
  | [], b => by simp only [List.nil_append, offs]; omega
  | t :: l, b => by simp only [List.cons_append, offs, offs_app l b]; omega
end Go.Cap
namespace Go.Cap
def at4 (s : List UInt8) (i : Nat) : Int := 65536 * at2 s i + at2 s (i + 2)
def byteAt (s : List UInt8) (i : Nat) : Int := (s.getD i 0).toNat
def endAt (s : List UInt8) (i : Nat) : Nat := i + ((at2 s (i + 2)).toNat + 3) / 4 * 4
def chunkAt (s : List UInt8) (i : Nat) : Chunk := ⟨byteAt s i, byteAt s (i + 1), (s.drop (i + 4)).take ((at2 s (i + 2)).toNat - 4)⟩
def chunkOk (s : List UInt8) (i : Nat) : Bool := decide (i + 4 ≤ s.length) && inB (at2 s (i + 2)) 4 64 && decide (endAt s i ≤ s.length) && ((s.take (endAt s i)).drop (i + (at2 s (i + 2)).toNat)).all (· == 0)
def chunksGet : Nat → List UInt8 → Nat → Option (List Chunk)
  | 0, _, _ => none
  | f + 1, s, i => if s.length ≤ i then some [] else if chunkOk s i then (chunksGet f s (endAt s i)).map (chunkAt s i :: ·) else none
def noPack : Packet := ⟨0, 0, 0, []⟩
def packOf (s : List UInt8) (l : List Chunk) : Packet := ⟨at2 s 0, at2 s 2, at4 s 4, l⟩
def packGet (s : List UInt8) : Packet × Int :=
  if s.length < 12 then (noPack, 1)
  else if at4 s 8 ≠ sumOf (s.take 8 ++ [0, 0, 0, 0] ++ s.drop 12) then (noPack, 2)
  else match chunksGet s.length s 12 with
    | none => (noPack, 3)
    | some l => if packB (packOf s l) then (packOf s l, 0) else (noPack, 3)
def aloneK (k : Int) : Bool := decide (k = 1 ∨ k = 2 ∨ k = 14)
def aloneB (p : Packet) : Bool := packB p && (decide (p.chunks.length = 1) || p.chunks.all fun c => !aloneK c.kind)
def noData : Data := ⟨0, 0, 0, false, false, false, []⟩
def dataOf (c : Chunk) : Data := ⟨at2 c.body 0, at2 c.body 2, at2 c.body 4, decide (c.flags / 2 % 2 = 1), decide (c.flags % 2 = 1), decide (c.flags / 4 = 1), c.body.drop 6⟩
def dataGet (c : Chunk) : Option Data := if decide (c.kind = 0) && inB c.flags 0 7 && decide (6 ≤ c.body.length) && dataB (dataOf c) then some (dataOf c) else none
def noInit : Init := ⟨0, 0, 0, 0⟩
def initOf (c : Chunk) : Init := ⟨at4 c.body 0, at2 c.body 4, at2 c.body 6, at2 c.body 8⟩
def initGet (c : Chunk) : Option Init := if decide (c.kind = 1 ∨ c.kind = 2) && decide (c.flags = 0) && decide (c.body.length = 10) && initB (initOf c) then some (initOf c) else none
def gapsOf : List UInt8 → List Gap
  | a :: b :: c :: d :: l => ⟨256 * a.toNat + b.toNat, 256 * c.toNat + d.toNat⟩ :: gapsOf l
  | _ => []
def sackOf (c : Chunk) : Sack := ⟨at2 c.body 0, gapsOf (c.body.drop 2)⟩
def sackGet (c : Chunk) : Option Sack := if decide (c.kind = 3) && decide (c.flags = 0) && decide (c.body.length % 4 = 2) && sackB (sackOf c) then some (sackOf c) else none
def Assoc.own (a : Assoc) (byB : Bool) : Side := if byB then a.b else a.a
def Assoc.other (a : Assoc) (byB : Bool) : Side := if byB then a.a else a.b
def Assoc.put (a : Assoc) (byB : Bool) (s : Side) : Assoc := if byB then { a with b := s } else { a with a := s }
def l3d (a b : Int) : Int := if 32768 < l3 b (-a) then l3 b (-a) - 65536 else l3 b (-a)
def stepInit (a : Assoc) (byB : Bool) (c : Chunk) : Assoc × Int :=
  let first := (decide (a.state = 0) && !byB && decide (c.kind = 1)) || (decide (a.state = 1) && byB && decide (c.kind = 2))
  let again := (inB a.state 1 2 && !byB && decide (c.kind = 1)) || (decide (a.state = 2) && byB && decide (c.kind = 2))
  if !first && !again then (a, 3)
  else match initGet c with
    | none => (a, 4)
    | some x => if again then (if x.tag ≠ (a.own byB).tag ∨ x.streams ≠ (a.own byB).streams ∨ x.tsn ≠ (a.own byB).first then (a, 7) else (a, 0))
      else (({ a with state := a.state + 1 } : Assoc).put byB ⟨x.tag, x.streams, x.tsn, [], 0⟩, 0)
def eqData (x y : Data) : Bool := x.tsn == y.tsn && (x.stream == y.stream && (x.ssn == y.ssn && (x.first == y.first && (x.last == y.last && (x.loose == y.loose && x.text == y.text)))))
def stepData (a : Assoc) (byB : Bool) (c : Chunk) : Assoc × Int :=
  let s := a.own byB
  let mayNew := decide (a.state = 4) || (decide (a.state = 3) && !byB)
  let mayOld := mayNew || (decide (a.state = 5) && byB != a.byB)
  if !mayOld then (a, 3)
  else match dataGet c with
    | none => (a, 4)
    | some d =>
      let k := l3 d.tsn (-s.first)
      if k < s.sent.length then (if eqData (s.sent.getD k.toNat noData) d then (a, 0) else (a, 7))
      else if !mayNew then (a, 3)
      else if s.streams ≤ d.stream then (a, 5)
      else if s.sent.length < k then (a, 6)
      else if !mayB s.sent d then (a, 8)
      else if 12 ≤ s.sent.length then (a, 11)
      else (a.put byB { s with sent := s.sent ++ [d] }, 0)
def lastTo (l : List Gap) : Int := match l.getLast? with | none => 0 | some g => g.to
def stepSack (a : Assoc) (byB : Bool) (c : Chunk) : Assoc × Int :=
  let o := a.other byB
  if !inB a.state 4 5 then (a, 3)
  else match sackGet c with
    | none => (a, 4)
    | some x =>
      let e := l3d (l3 o.first (-1)) x.cum
      if !inB e 0 o.sent.length || decide ((o.sent.length : Int) < e + lastTo x.gaps) then (a, 9)
      else (a.put (!byB) { o with acked := max o.acked e }, 0)
def stepEnd (a : Assoc) (byB : Bool) (k : Int) : Assoc × Int :=
  let s := a.own byB
  let done := decide (s.acked = s.sent.length)
  if k = 6 then (if inB a.state 1 6 then ({ a with state := 7 }, 0) else (a, 3))
  else if k = 7 then (if a.state = 4 then (if done then ({ a with state := 5, byB := byB }, 0) else (a, 10)) else if inB a.state 5 6 && byB == a.byB then (a, 0) else (a, 3))
  else if k = 8 then (if inB a.state 5 6 && byB != a.byB then (if a.state = 5 && !done then (a, 10) else ({ a with state := 6 }, 0)) else (a, 3))
  else (if a.state = 6 && byB == a.byB then ({ a with state := 7 }, 0) else (a, 3))
def stepRest (a : Assoc) (byB : Bool) (k : Int) : Assoc × Int :=
  if k = 10 then (if !byB && inB a.state 2 4 then ({ a with state := max a.state 3 }, 0) else (a, 3))
  else if k = 11 then (if byB && inB a.state 3 4 then ({ a with state := 4 }, 0) else (a, 3))
  else if k = 4 ∨ k = 5 ∨ k = 9 then (if inB a.state 3 6 then (a, 0) else (a, 3))
  else (a, 3)
def stepChunk (a : Assoc) (byB : Bool) (c : Chunk) : Assoc × Int :=
  if c.kind = 1 ∨ c.kind = 2 then stepInit a byB c
  else if c.kind = 0 then stepData a byB c
  else if c.kind = 3 then stepSack a byB c
  else if c.kind = 6 ∨ c.kind = 7 ∨ c.kind = 8 ∨ c.kind = 14 then stepEnd a byB c.kind
  else stepRest a byB c.kind
def stepChunks (byB : Bool) : List Chunk → Assoc → List Int → Assoc × List Int
  | [], a, rs => (a, rs)
  | c :: l, a, rs => stepChunks byB l (stepChunk a byB c).1 (rs ++ [(stepChunk a byB c).2])
def tagOf (a : Assoc) (byB : Bool) (p : Packet) : Int := if p.chunks.any (fun c => decide (c.kind = 1)) then 0 else (a.other byB).tag
def brokenB (a : Assoc) (byB : Bool) (p : Packet) (rs : List Int) (k : Nat) : Bool := (k == 1 && !aloneB p) || (k == 2 && decide (p.tag ≠ tagOf a byB p)) || rs.contains (k : Int)
def rulesOf (b : Nat → Bool) : List Int := ((List.range 12).filter fun k => decide (1 ≤ k) && b k).map fun (k : Nat) => (k : Int)
def byBOf (a : Assoc) (p : Packet) : Bool := decide (p.fr = a.to ∧ p.to = a.fr)
def assocStep (a : Assoc) (p : Packet) : Assoc × List Int :=
  if !assocB a || !packB p || (!byBOf a p && decide (p.fr ≠ a.fr ∨ p.to ≠ a.to)) then (noAssoc, [])
  else
    let x := stepChunks (byBOf a p) p.chunks a []
    let rules := rulesOf (brokenB a (byBOf a p) p x.2)
    (if rules.isEmpty then x.1 else a, rules)
def noMon : Mon := ⟨0, [], []⟩
def note (m : Mon) (codes : List Int) : Mon := { m with found := m.found ++ codes.map fun c => ⟨m.records - 1, c⟩ }
def dropAt (l : List Assoc) (k : Nat) : List Assoc := l.take k ++ l.drop (k + 1)
def kind0 (p : Packet) : Int := (p.chunks.getD 0 default).kind
def beginMon (m : Mon) (p : Packet) : Mon :=
  let x := assocStep ⟨p.fr, p.to, 0, false, noSide, noSide⟩ p
  if kind0 p ≠ 1 then note m [104]
  else if !x.2.isEmpty then note m x.2
  else if 3 ≤ m.list.length then note m [105]
  else { m with list := m.list ++ [x.1] }
def againB (a : Assoc) (p : Packet) : Bool := decide (a.state = 7) && decide (kind0 p = 1) && aloneB p && decide (p.tag = 0) && (initGet (p.chunks.getD 0 default)).isSome
def stepMon (m : Mon) (text : List UInt8) : Mon :=
  let out : Mon := { m with records := m.records + 1 }
  match packGet text with
  | (p, code) =>
    if code ≠ 0 then note out [100 + code]
    else match findIx p.fr p.to m.list with
      | none => beginMon out p
      | some k =>
        let a := assocAt m.list k
        if againB a p then beginMon { out with list := dropAt m.list k } p
        else note { out with list := m.list.set k (assocStep a p).1 } (assocStep a p).2
def monStep (m : Mon) (text : List UInt8) : Mon := if monB m && decide (m.records < 60) then stepMon m text else noMon
def sideL (b : Bool) (l : List (Bool × Data)) : List Data := (l.filter fun x => x.1 == b).map (·.2)
theorem long_at {n : Int} (h : 0 ≤ n ∧ n < 4294967296) (a b : List UInt8) : at4 (a ++ (long n ++ b)) a.length = n := by
  have e : a ++ (long n ++ b) = a ++ word (n / 65536) ++ (word (n % 65536) ++ b) := by simp [long]
  have h1 : at2 (a ++ (long n ++ b)) a.length = n / 65536 := by rw [e]; exact at2_word (by omega) a _
  have h2 : at2 (a ++ (long n ++ b)) (a.length + 2) = n % 65536 := by
    have := at2_word (n := n % 65536) (by omega) (a ++ word (n / 65536)) b
    rw [e, ← List.append_assoc]
    rw [List.length_append] at this
    exact this
  unfold at4
  rw [h1, h2]; omega
theorem word_at {n : Int} (h : 0 ≤ n ∧ n < 65536) (a b : List UInt8) (k : Nat) (hk : a.length = k) : at2 (a ++ (word n ++ b)) k = n := by
  subst hk; rw [← List.append_assoc]; exact at2_word h a b
theorem word_len (n : Int) : (word n).length = 2 := rfl
theorem init_get {x : Init} (h : initB x = true) (b : Bool) : initGet (initPut x b) = some x := by
  have h' := h
  simp only [initB, serialB, Bool.and_eq_true, decide_eq_true_eq] at h'
  have e : initOf (initPut x b) = x := by
    unfold initOf initPut
    obtain ⟨tag, window, streams, tsn⟩ := x
    simp only at h' ⊢
    have e0 : at4 (long tag ++ word window ++ word streams ++ word tsn) 0 = tag := by
      have := long_at (n := tag) (by omega) [] (word window ++ word streams ++ word tsn)
      simpa using this
    have e4 : at2 (long tag ++ word window ++ word streams ++ word tsn) 4 = window := by
      have := word_at (n := window) (by omega) (long tag) (word streams ++ word tsn) 4 rfl
      simpa using this
    have e6 : at2 (long tag ++ word window ++ word streams ++ word tsn) 6 = streams := by
      have := word_at (n := streams) (by omega) (long tag ++ word window) (word tsn) 6 rfl
      simpa using this
    have e8 : at2 (long tag ++ word window ++ word streams ++ word tsn) 8 = tsn := by
      have := word_at (n := tsn) (by omega) (long tag ++ word window ++ word streams) [] 8 rfl
      simpa using this
    rw [e0, e4, e6, e8]
  unfold initGet
  rw [e, h, if_pos]
  cases b <;> simp [initPut, word, long]
end Go.Cap
namespace Go.Cap
attribute [local irreducible] Call Run Spec Le
theorem wrap_u8 (x : Int) : IntKind.u8.wrap x = x % 256 := by
  simp only [IntKind.wrap, IntKind.bits, IntKind.signed]
  first | rfl | (simp; done) | omega
theorem byteOf_u8 (x : Int) : byteOf [.n .u8 x] = u8 x := rfl
theorem wt {n : Int} (h : 0 ≤ n ∧ n < 65536) : [byteOf [.n .u8 (IntKind.u8.wrap (IntKind.i64.wrap (n.tdiv 256)))], byteOf [.n .u8 (IntKind.u8.wrap (n.tmod 256))]] = word n := by
  have h1 : n.tdiv 256 = n / 256 := Int.tdiv_eq_ediv_of_nonneg h.1
  have h2 : n.tmod 256 = n % 256 := Int.tmod_eq_emod_of_nonneg h.1
  simp only [byteOf_u8, wrap_u8, h1, h2, word]
  rw [wrap64 (by omega) (by omega), Int.emod_eq_of_lt (a := n / 256) (by omega) (by omega), Int.emod_emod_of_dvd _ (by decide)]
theorem s_l1Word (n : Int) (h : 0 ≤ n ∧ n < 65536) : Spec Tryz.prog 112 0 [] [.i n] (fun r _ _ _ => r = .st (word n)) := by
  refine mk112 rfl fun c hP hm => ?_
  unfold pc112
  simp only [hm,go_sem,↓reduceIte]
  repeat' first | refine And.intro ?_ ?_ | intro _
  all_goals first
    | omega
    | (rename_i hr; rcases hr with rfl | rfl <;> exact ⟨_, rfl⟩)
    | rw [wt h]
theorem w12 : IntKind.i64.wrap (1 + 2) = 3 := by decide
def Sack.ro (s : Sack) : AV := .agg [.i s.cum, .r (.ro none (s.gaps.map Gap.row))]
theorem gapsB_drop {l : List Gap} {i : Nat} (h : i < l.length) (last : Int) : gapsB last (l.drop i) = (decide (last + 2 ≤ l[i].fr ∧ l[i].fr ≤ l[i].to ∧ l[i].to ≤ 16) && gapsB l[i].to (l.drop (i + 1))) := by
  rw [List.drop_eq_getElem_cons h]; rfl
theorem s_sackOk (s : Sack) (hl : s.gaps.length ≤ 2000000) : Spec Tryz.prog 125 0 [] [s.ro] (fun r _ _ _ => r = .bo (sackB s)) := by
  refine mr125 rfl fun c hP hm => ?_
  unfold pc125 Sack.ro
  refine run_seq (run_wpc _ _ _ _ _ ?_)
  simp only [hm,go_sem,↓reduceIte]
  refine run_seq (run_wpc _ _ _ _ _ ?_)
  simp only [hm,go_sem,↓reduceIte]
  repeat' first | refine And.intro ?_ ?_ | intro _ | (refine c_serialOk hP ?_; simp only [hm,go_sem,↓reduceIte])
  all_goals first
    | (apply bo_inj; simp [sackB, *]; done)
    | (apply bo_inj; simp [sackB, *]; omega)
    | skip
  rename_i hser _ h8
  refine run_wpc _ _ _ _ _ ?_
  simp only [hm,go_sem,↓reduceIte]
  intro _
  refine lp_wpc (α := Nat × Int) (fun y => ⟨[(3, .i (y.2 + 2)), (17, .r (.ro none (s.gaps.map Gap.row))), (18, .i s.gaps.length), (19, .i y.1)], [], 0, []⟩)
    (fun y => y.1 ≤ s.gaps.length ∧ 0 ≤ y.2 ∧ y.2 ≤ 16 ∧ gapsB y.2 (s.gaps.drop y.1) = gapsB 0 s.gaps) (fun y => s.gaps.length - y.1) (0, 0) ⟨Nat.zero_le _, by simp, by simp, rfl⟩ (by (refine le_ev [] ?_; simp only [hm,go_sem,↓reduceIte]; first | done | rfl | exact ⟨rfl, rfl⟩)) ?_
  rintro ⟨i, last⟩ ⟨hi, hb0, hb1, hI⟩
  simp only at hi hb0 hb1 hI
  unfold pc125l0
  rcases Nat.lt_or_ge i s.gaps.length with hil | hil
  · have hw : IntKind.i64.wrap ((i : Int) + 1) = ((i + 1 : Nat) : Int) := by rw [wrap64 (by omega) (by omega)]; omega
    rw [gapsB_drop hil] at hI
    have hg := getD_map (f := Gap.row) hil
    generalize s.gaps[i] = g at hI hg
    have hok : gapsB 0 s.gaps = false → AV.r (RV.b false) = AV.bo (sackB s) := fun h => by simp [sackB, h]
    simp only [hw, Int.toNat_natCast, hg, Gap.row, hm,go_sem,↓reduceIte]
    repeat' first | refine And.intro ?_ ?_ | intro _
    all_goals first
      | omega
      | rfl
      | (refine hok ?_; rw [← hI, decide_eq_false (by omega)]; rfl)
      | (rw [decide_eq_true (by omega), Bool.true_and] at hI
         refine ⟨(i + 1, g.to), ⟨hil, ?_, ?_, hI⟩, ?_, ?_⟩
         · simp only; omega
         · simp only; omega
         · simp only; omega
         · rw [wrap64 (x := g.to + 2) (by omega) (by omega)]
           (refine le_ev [] ?_; simp only [hm,go_sem,↓reduceIte]; first | done | rfl | exact ⟨rfl, rfl⟩))
  · have : i = s.gaps.length := by omega
    subst this
    rw [List.drop_eq_nil_of_le (Nat.le_refl _)] at hI
    simp only [hm,go_sem,↓reduceIte]
    repeat' first | refine And.intro ?_ ?_ | intro _
    all_goals first
      | omega
      | (apply bo_inj; simp [sackB, hser, ← hI, gapsB]; omega)
theorem s_l12Sack (s : Sack) (hl : s.gaps.length ≤ 2000000) : Spec Tryz.prog 130 0 [] [s.ro] (fun r _ _ _ => r = .bo (sackB s)) := by
  refine mr130 rfl fun c hP hm => ?_
  unfold pc130 Sack.ro
  refine run_seq (run_wpc _ _ _ _ _ ?_)
  simp only [hm,go_sem,↓reduceIte]
  refine run_seq (run_wpc _ _ _ _ _ ?_)
  simp only [hm,go_sem,↓reduceIte]
  refine run_seq (run_wpc _ _ _ _ _ ?_)
  simp only [hm,go_sem,↓reduceIte]
  refine run_exit 0 (fun t0 => t0 = ⟨[(1, .ptr 0 0 0)], [(0, .var [.i s.cum, .r (.ro none (s.gaps.map Gap.row))])], 1, []⟩ ∧ gapsB 0 s.gaps = true) ?_ ?_
  · refine lp_wpc (α := Nat × Int) (fun y => ⟨[(1, .ptr 0 0 0), (3, .i y.2), (4, .i y.1)], [(0, .var [.i s.cum, .r (.ro none (s.gaps.map Gap.row))])], 1, []⟩)
      (fun y => y.1 ≤ s.gaps.length ∧ 0 ≤ y.2 ∧ y.2 ≤ 16 ∧ gapsB y.2 (s.gaps.drop y.1) = gapsB 0 s.gaps) (fun y => s.gaps.length - y.1) (0, 0) ⟨Nat.zero_le _, by simp, by simp, rfl⟩ (by (refine le_ev [] ?_; simp only [hm,go_sem,↓reduceIte]; first | done | rfl | exact ⟨rfl, rfl⟩)) ?_
    rintro ⟨i, last⟩ ⟨hi, hb0, hb1, hI⟩
    simp only at hi hb0 hb1 hI
    unfold pc130l0
    rcases Nat.lt_or_ge i s.gaps.length with hil | hil
    · have hw : IntKind.i64.wrap ((i : Int) + 1) = ((i + 1 : Nat) : Int) := by rw [wrap64 (by omega) (by omega)]; omega
      have hw2 : IntKind.i64.wrap (last + 2) = last + 2 := wrap64 (by omega) (by omega)
      rw [gapsB_drop hil] at hI
      have hg := getD_map (f := Gap.row) hil
      generalize s.gaps[i] = g at hI hg
      have hok : gapsB 0 s.gaps = false → AV.r (RV.b false) = AV.bo (sackB s) := fun h => by simp [sackB, h]
      simp only [hw, hw2, Int.toNat_natCast, hg, Gap.row, hm,go_sem,↓reduceIte]
      repeat' first | refine And.intro ?_ ?_ | intro _
      all_goals first
        | omega
        | rfl
        | (refine hok ?_; rw [← hI, decide_eq_false (by omega)]; rfl)
        | (rw [decide_eq_true (by omega), Bool.true_and] at hI
           refine ⟨(i + 1, g.to), ⟨hil, ?_, ?_, hI⟩, ?_, ?_⟩
           · simp only; omega
           · simp only; omega
           · simp only; omega
           · (refine le_ev [] ?_; simp only [hm,go_sem,↓reduceIte]; first | done | rfl | exact ⟨rfl, rfl⟩))
    · have : i = s.gaps.length := by omega
      subst this
      rw [List.drop_eq_nil_of_le (Nat.le_refl _)] at hI
      simp only [hm,go_sem,↓reduceIte]
      repeat' first | refine And.intro ?_ ?_ | intro _
      all_goals first
        | omega
        | (refine ⟨_, ⟨rfl, hI.symm⟩, ?_⟩; (refine le_ev [] ?_; simp only [hm,go_sem,↓reduceIte]; first | done | rfl | exact ⟨rfl, rfl⟩))
  rintro t0 ⟨rfl, hG⟩
  refine run_wpc _ _ _ _ _ ?_
  simp only [hm,go_sem,↓reduceIte]
  repeat' first | refine And.intro ?_ ?_ | intro _ | (refine c_l3Ok hP ?_; simp only [hm,go_sem,↓reduceIte])
  all_goals first
    | (apply bo_inj; simp [sackB, *]; done)
    | (apply bo_inj; rw [Bool.eq_iff_iff]; simp [sackB, *]; omega)
theorem s_implChunkValid (c : Chunk) : Spec Tryz.prog 88 0 [] [c.av] (fun r _ _ _ => r = .bo (chunkB c)) := by
  refine mk88 rfl fun cx hP hm => ?_
  unfold pc88 Chunk.av
  simp only [hm,go_sem,↓reduceIte]
  repeat' first | refine And.intro ?_ ?_ | intro _
  all_goals (apply bo_inj; rw [Bool.eq_iff_iff]; simp [chunkB, inB] <;> omega)
theorem s_implPacketValid (p : Packet) : Spec Tryz.prog 69 0 [] [p.ro] (fun r _ _ _ => r = .bo (packB p)) := by
  refine mr69 rfl fun c hP hm => ?_
  unfold pc69 Packet.ro
  refine run_seq (run_wpc _ _ _ _ _ ?_)
  simp only [hm,go_sem,↓reduceIte]
  refine run_seq (run_wpc _ _ _ _ _ ?_)
  simp only [hm,go_sem,↓reduceIte]
  repeat' first | refine And.intro ?_ ?_ | intro _
  all_goals first
    | (apply bo_inj; symm; rw [Bool.eq_false_iff]; intro hh; simp only [packB, inB, Bool.and_eq_true, decide_eq_true_eq] at hh; omega)
    | skip
  refine run_wpc _ _ _ _ _ ?_
  simp only [hm,go_sem,↓reduceIte]
  intro _
  refine lp_wpc (α := Nat) (fun i => ⟨[(53, .r (.ro none (p.chunks.map Chunk.row))), (54, .i p.chunks.length), (55, .i i)], [], 0, []⟩)
    (fun i => i ≤ p.chunks.length ∧ ∀ c ∈ p.chunks.take i, chunkB c = true) (fun i => p.chunks.length - i) 0 ⟨Nat.zero_le _, fun c hc => by simp at hc⟩ (by (refine le_ev [] ?_; simp only [hm,go_sem,↓reduceIte]; first | done | rfl | exact ⟨rfl, rfl⟩)) ?_
  rintro i ⟨hi, hI⟩
  unfold pc69l0
  rcases Nat.lt_or_ge i p.chunks.length with hil | hil
  · have hw : IntKind.i64.wrap ((i : Int) + 1) = ((i + 1 : Nat) : Int) := by rw [wrap64 (by omega) (by omega)]; omega
    have hg := getD_map (f := Chunk.row) hil
    have htk := take_get hil
    have hmem := List.getElem_mem hil
    generalize p.chunks[i] = x at hg htk hmem
    have hok : chunkB x = false → AV.r (RV.b false) = AV.bo (packB p) := fun h => by
      apply bo_inj; symm; rw [Bool.eq_false_iff]; intro hh
      simp only [packB, Bool.and_eq_true, List.all_eq_true] at hh
      rw [hh.2 x hmem] at h; cases h
    simp only [hw, Int.toNat_natCast, hg, Chunk.row, hm,go_sem,↓reduceIte]
    repeat' first | refine And.intro ?_ ?_ | intro _ | (refine call_pure (hP ▸ s_implChunkValid x) rfl rfl ?_; simp only [hw, Int.toNat_natCast, hg, Chunk.row, hm,go_sem,↓reduceIte])
    all_goals first
      | omega
      | rfl
      | (rename_i hc; exact hok hc)
      | (rename_i hc
         refine ⟨i + 1, ⟨hil, fun y hy => ?_⟩, by omega, ?_⟩
         · rw [htk] at hy
           rcases List.mem_append.1 hy with hy | hy
           · exact hI y hy
           · simp only [List.mem_singleton] at hy; subst hy; exact hc
         · (refine le_ev [] ?_; simp only [hm,go_sem,↓reduceIte]; first | done | rfl | exact ⟨rfl, rfl⟩))
  · have : i = p.chunks.length := by omega
    subst this
    rw [List.take_length] at hI
    have hall : p.chunks.all chunkB = true := List.all_eq_true.2 hI
    simp only [hm,go_sem,↓reduceIte]
    repeat' first | refine And.intro ?_ ?_ | intro _
    all_goals first
      | omega
      | (apply bo_inj; symm; simp only [packB, inB, hall, Bool.and_eq_true, decide_eq_true_eq, and_true]; omega)
theorem sum_step {a b : Int} {x : UInt8} (ha : 0 ≤ a ∧ a < 65536) (hb : 0 ≤ b ∧ b < 65536) : (IntKind.i64.wrap (a + IntKind.i64.wrap (x.toNat : Int))).tmod 65521 = (a + x.toNat) % 65521 ∧ (IntKind.i64.wrap (b + (a + x.toNat) % 65521)).tmod 65521 = (b + (a + x.toNat) % 65521) % 65521 := by
  have hx := byte_lt x
  have h1 : IntKind.i64.wrap (x.toNat : Int) = x.toNat := wrap64 (by omega) (by omega)
  rw [h1, wrap64 (by omega) (by omega), wrap64 (x := b + _) (by omega) (by omega)]
  exact ⟨Int.tmod_eq_emod_of_nonneg (by omega), Int.tmod_eq_emod_of_nonneg (by omega)⟩
theorem getD_eq {s : List UInt8} {i : Nat} (h : i < s.length) : s.getD i 0 = s[i] := by simp [List.getD_eq_getElem?_getD, h]
theorem s_sumOn (s : List UInt8) (hs : s.length ≤ 2000000) : Spec Tryz.prog 87 0 [] [.i 1, .i 0, .st s] (fun r _ _ _ => r = .i (sumOf s)) := by
  refine mk87 rfl fun c hP hm => ?_
  unfold pc87
  simp only [hm,go_sem,↓reduceIte]
  refine lp_wpc (α := Nat) (fun i => ⟨[(0, .i (adl (s.take i) 1 0).1), (1, .i (adl (s.take i) 1 0).2), (2, .st s), (7, .i i)], [], 0, []⟩) (fun i => i ≤ s.length) (fun i => s.length - i) 0 (Nat.zero_le _) (by rw [List.take_zero, adl]; (refine le_ev [] ?_; simp only [hm,go_sem,↓reduceIte]; first | done | rfl | exact ⟨rfl, rfl⟩)) ?_
  intro i hi
  unfold pc87l0
  rcases Nat.lt_or_ge i s.length with hil | hil
  · have hw : IntKind.i64.wrap ((i : Int) + 1) = ((i + 1 : Nat) : Int) := by rw [wrap64 (by omega) (by omega)]; omega
    obtain ⟨r1, r2⟩ := adl_range (s.take i) 1 0 (by omega) (by omega)
    have hst := adl_take hil 1 0
    have hgd := getD_eq hil
    generalize adl (s.take i) 1 0 = ab at r1 r2 hst
    generalize s[i] = x at hst hgd
    obtain ⟨e1, e2⟩ := sum_step (a := ab.1) (b := ab.2) (x := x) (by omega) (by omega)
    simp only [hw, hgd, e1, e2, Int.toNat_natCast, hm,go_sem,↓reduceIte]
    repeat' first | refine And.intro ?_ ?_ | intro _
    all_goals first
      | omega
      | (refine ⟨i + 1, hil, by omega, ?_⟩; rw [hst]; (refine le_ev [] ?_; simp only [hm,go_sem,↓reduceIte]; first | done | rfl | exact ⟨rfl, rfl⟩))
  · have : i = s.length := by omega
    subst this
    rw [List.take_length]
    obtain ⟨r1, r2⟩ := adl_range s 1 0 (by omega) (by omega)
    have hf : IntKind.i64.wrap (IntKind.i64.wrap ((adl s 1 0).2 * 65536) + (adl s 1 0).1) = sumOf s := by
      unfold sumOf
      rw [wrap64 (x := (adl s 1 0).2 * 65536) (by omega) (by omega), wrap64 (by omega) (by omega)]; omega
    simp only [hf, hm,go_sem,↓reduceIte]
    repeat' first | refine And.intro ?_ ?_ | intro _
    all_goals first
      | omega
      | rfl
theorem s_SumText (s : List UInt8) (hs : s.length ≤ 2000000) : Spec Tryz.prog 66 0 [] [.st s] (fun r _ _ _ => r = .i (sumOf s)) := by
  refine mk66 rfl fun c hP hm => ?_
  unfold pc66
  simp only [hm,go_sem,↓reduceIte]
  refine call_pure (hP ▸ s_sumOn s hs) rfl rfl ?_
  simp only [hm,go_sem,↓reduceIte]
theorem s_l2Next (s : List UInt8) (hs : s.length ≤ 2000000) : Spec Tryz.prog 94 0 [] [.i 1, .st s] (fun r _ _ _ => r = .i (sumOf s)) := by
  refine mk94 rfl fun c hP hm => ?_
  unfold pc94
  have t1 : (1 : Int).tmod 65536 = 1 := by decide
  have t2 : IntKind.i64.wrap ((1 : Int).tdiv 65536) = 0 := by decide
  simp only [t1, t2, hm,go_sem,↓reduceIte]
  refine lp_wpc (α := Nat) (fun i => ⟨[(1, .st s), (5, .i (adl (s.take i) 1 0).1), (6, .i (adl (s.take i) 1 0).2), (7, .i i)], [], 0, []⟩) (fun i => i ≤ s.length) (fun i => s.length - i) 0 (Nat.zero_le _) (by rw [List.take_zero, adl]; (refine le_ev [] ?_; simp only [hm,go_sem,↓reduceIte]; first | done | rfl | exact ⟨rfl, rfl⟩)) ?_
  intro i hi
  unfold pc94l0
  rcases Nat.lt_or_ge i s.length with hil | hil
  · have hw : IntKind.i64.wrap ((i : Int) + 1) = ((i + 1 : Nat) : Int) := by rw [wrap64 (by omega) (by omega)]; omega
    obtain ⟨r1, r2⟩ := adl_range (s.take i) 1 0 (by omega) (by omega)
    have hst := adl_take hil 1 0
    have hgd := getD_eq hil
    generalize adl (s.take i) 1 0 = ab at r1 r2 hst
    generalize s[i] = x at hst hgd
    obtain ⟨e1, e2⟩ := sum_step (a := ab.1) (b := ab.2) (x := x) (by omega) (by omega)
    simp only [hw, hgd, e1, e2, Int.toNat_natCast, hm,go_sem,↓reduceIte]
    repeat' first | refine And.intro ?_ ?_ | intro _
    all_goals first
      | omega
      | (refine ⟨i + 1, hil, by omega, ?_⟩; rw [hst]; (refine le_ev [] ?_; simp only [hm,go_sem,↓reduceIte]; first | done | rfl | exact ⟨rfl, rfl⟩))
  · have : i = s.length := by omega
    subst this
    rw [List.take_length]
    obtain ⟨r1, r2⟩ := adl_range s 1 0 (by omega) (by omega)
    have hf : IntKind.i64.wrap (IntKind.i64.wrap (65536 * (adl s 1 0).2) + (adl s 1 0).1) = sumOf s := by
      unfold sumOf
      rw [wrap64 (x := 65536 * (adl s 1 0).2) (by omega) (by omega), wrap64 (by omega) (by omega)]
    simp only [hf, hm,go_sem,↓reduceIte]
    repeat' first | refine And.intro ?_ ?_ | intro _
    all_goals first
      | omega
      | rfl
def chunkHead (c : Chunk) : List UInt8 := [u8 c.kind, u8 c.flags] ++ word (4 + c.body.length : Nat) ++ c.body
theorem chunkHead_len (c : Chunk) : (chunkHead c).length = 4 + c.body.length := by simp [chunkHead, word]; omega
theorem kb {k f : Int} (hk : 0 ≤ k ∧ k ≤ 255) (hf : 0 ≤ f ∧ f ≤ 255) : [byteOf [.n .u8 (IntKind.u8.wrap k)], byteOf [.n .u8 (IntKind.u8.wrap f)]] = [u8 k, u8 f] := by
  simp only [byteOf_u8, wrap_u8]
  rw [Int.emod_eq_of_lt (a := k) (by omega) (by omega), Int.emod_eq_of_lt (a := f) (by omega) (by omega)]
theorem pad_mod {n j : Nat} (hn : n ≤ 60) (hj : j ≤ padN n) : (((4 + n + j : Nat) : Int).tmod 4 = 0) ↔ j = padN n := by
  rw [Int.tmod_eq_emod_of_nonneg (by omega)]
  unfold padN at hj ⊢
  omega
theorem loop_l11Put {cx : Cx} (hP : cx.P = Tryz.prog) (hm : cx.m = 0) (c : Chunk) (h3 : c.body.length ≤ 60) {s0 : St} {n r : St → Prop} {x : Nat → St → Prop}
    (hs : Le cx s0 ⟨[(3, .st (chunkHead c ++ List.replicate 0 0))], [], 0, []⟩) (hx : x 0 ⟨[(3, .st (chunkPut c))], [], 0, []⟩) : Run cx (.lp pc95l0) s0 n x r := by
  have hhl := chunkHead_len c
  refine run_exit 0 (fun t0 => t0 = ⟨[(3, .st (chunkPut c))], [], 0, []⟩) ?_ (fun t0 h => by rw [h]; exact hx)
  refine lp_wpc (α := Nat) (fun j => ⟨[(3, .st (chunkHead c ++ List.replicate j 0))], [], 0, []⟩) (fun j => j ≤ padN c.body.length) (fun j => padN c.body.length - j) 0 (Nat.zero_le _) hs ?_
  intro j hj
  unfold pc95l0
  have hpm := pad_mod h3 hj
  have hp4 := (padN_lt c.body.length).1
  have hll : ((chunkHead c).length + j) = 4 + c.body.length + j := by omega
  simp only [List.length_append, List.length_replicate, hll, hm,go_sem,↓reduceIte]
  repeat' first | refine And.intro ?_ ?_ | intro _
  all_goals first
    | omega
    | (rename_i hne
       refine ⟨j + 1, ?_, ?_, ?_⟩
       · have : j ≠ padN c.body.length := fun e => hne (hpm.2 e)
         omega
       · have : j ≠ padN c.body.length := fun e => hne (hpm.2 e)
         omega
       · rw [List.append_assoc, ← List.replicate_succ' (n := j) (a := (0 : UInt8))]
         (refine le_ev [] ?_; simp only [hm,go_sem,↓reduceIte]; first | done | rfl | exact ⟨rfl, rfl⟩))
    | (rename_i he; rw [hpm.1 he]; refine ⟨_, rfl, ?_⟩; unfold chunkPut chunkHead; (refine le_ev [] ?_; simp only [hm,go_sem,↓reduceIte]; first | done | rfl | exact ⟨rfl, rfl⟩))
theorem s_l11Put (c : Chunk) (h : chunkB c = true) : Spec Tryz.prog 95 0 [] [c.av] (fun r _ _ _ => r = .st (chunkPut c)) := by
  have h' := h
  simp only [chunkB, inB, Bool.and_eq_true, decide_eq_true_eq] at h'
  obtain ⟨⟨h1, h2⟩, h3⟩ := h'
  refine mk95 rfl fun cx hP hm => ?_
  unfold pc95 Chunk.av
  have hw : IntKind.i64.wrap (4 + (c.body.length : Int)) = ((4 + c.body.length : Nat) : Int) := by rw [wrap64 (by omega) (by omega)]; omega
  have hk := kb h1 h2
  have hb2 : u8 c.kind :: u8 c.flags :: (word ((4 + c.body.length : Nat) : Int) ++ c.body) = chunkHead c ++ List.replicate 0 0 := by rw [List.replicate_zero, List.append_nil]; rfl
  simp only [hw, hk, hm,go_sem,↓reduceIte]
  repeat' first
    | refine And.intro ?_ ?_
    | intro _
    | (refine call_pure (hP ▸ s_l1Word ((4 + c.body.length : Nat) : Int) (by omega)) rfl rfl ?_; simp only [hk, word_len, List.length_append, List.length_cons, List.length_nil, List.cons_append, List.nil_append, hm,go_sem,↓reduceIte])
  all_goals first
    | omega
    | (rename_i hr; rcases hr with rfl | rfl <;> exact ⟨_, rfl⟩)
    | (rw [hw]; done)
    | (refine loop_l11Put hP hm c h3 (by rw [← hb2]; (refine le_ev [] ?_; simp only [hm,go_sem,↓reduceIte]; first | done | rfl | exact ⟨rfl, rfl⟩)) ?_
       simp only [hm,go_sem,↓reduceIte])
theorem s_specChunkValid (c : Chunk) : Spec Tryz.prog 96 0 [] [c.av] (fun r _ _ _ => r = .bo (chunkB c)) := by
  refine mk96 rfl fun cx hP hm => ?_
  unfold pc96 Chunk.av
  simp only [hm,go_sem,↓reduceIte]
  repeat' first | refine And.intro ?_ ?_ | intro _ | (refine c_l6In hP ?_; simp only [hm,go_sem,↓reduceIte])
  all_goals (apply bo_inj; rw [Bool.eq_iff_iff]; simp [chunkB, *] <;> omega)
theorem s_specPacketValid (p : Packet) (hl : p.chunks.length ≤ 2000000) : Spec Tryz.prog 77 0 [] [p.ro] (fun r _ _ _ => r = .bo (packB p)) := by
  refine mr77 rfl fun c hP hm => ?_
  unfold pc77 Packet.ro
  refine run_seq (run_wpc _ _ _ _ _ ?_)
  simp only [hm,go_sem,↓reduceIte]
  refine run_seq (run_wpc _ _ _ _ _ ?_)
  simp only [hm,go_sem,↓reduceIte]
  refine run_exit 0 (fun t0 => t0 = ⟨[(1, .ptr 0 0 0)], [(0, .var [.i p.fr, .i p.to, .i p.tag, .r (.ro none (p.chunks.map Chunk.row))])], 1, []⟩ ∧ p.chunks.all chunkB = true) ?_ ?_
  · refine lp_wpc (α := Nat) (fun i => ⟨[(1, .ptr 0 0 0), (3, .i i)], [(0, .var [.i p.fr, .i p.to, .i p.tag, .r (.ro none (p.chunks.map Chunk.row))])], 1, []⟩)
      (fun i => i ≤ p.chunks.length ∧ ∀ c ∈ p.chunks.take i, chunkB c = true) (fun i => p.chunks.length - i) 0 ⟨Nat.zero_le _, fun c hc => by simp at hc⟩ (by (refine le_ev [] ?_; simp only [hm,go_sem,↓reduceIte]; first | done | rfl | exact ⟨rfl, rfl⟩)) ?_
    rintro i ⟨hi, hI⟩
    unfold pc77l0
    rcases Nat.lt_or_ge i p.chunks.length with hil | hil
    · have hw : IntKind.i64.wrap ((i : Int) + 1) = ((i + 1 : Nat) : Int) := by rw [wrap64 (by omega) (by omega)]; omega
      have hg := getD_map (f := Chunk.row) hil
      have htk := take_get hil
      have hmem := List.getElem_mem hil
      generalize p.chunks[i] = x at hg htk hmem
      have hok : chunkB x = false → AV.r (RV.b false) = AV.bo (packB p) := fun h => by
        apply bo_inj; symm; rw [Bool.eq_false_iff]; intro hh
        simp only [packB, Bool.and_eq_true, List.all_eq_true] at hh
        rw [hh.2 x hmem] at h; cases h
      simp only [hw, Int.toNat_natCast, hg, Chunk.row, hm,go_sem,↓reduceIte]
      repeat' first | refine And.intro ?_ ?_ | intro _ | (refine call_pure (hP ▸ s_specChunkValid x) rfl rfl ?_; simp only [hw, Int.toNat_natCast, hg, Chunk.row, hm,go_sem,↓reduceIte])
      all_goals first
        | omega
        | rfl
        | (rename_i hc; exact hok hc)
        | (rename_i hc
           refine ⟨i + 1, ⟨hil, fun y hy => ?_⟩, by omega, ?_⟩
           · rw [htk] at hy
             rcases List.mem_append.1 hy with hy | hy
             · exact hI y hy
             · simp only [List.mem_singleton] at hy; subst hy; exact hc
           · (refine le_ev [] ?_; simp only [hm,go_sem,↓reduceIte]; first | done | rfl | exact ⟨rfl, rfl⟩))
    · have : i = p.chunks.length := by omega
      subst this
      rw [List.take_length] at hI
      have hall : p.chunks.all chunkB = true := List.all_eq_true.2 hI
      simp only [hm,go_sem,↓reduceIte]
      repeat' first | refine And.intro ?_ ?_ | intro _
      all_goals first
        | omega
        | (refine ⟨_, ⟨rfl, hall⟩, ?_⟩; (refine le_ev [] ?_; simp only [hm,go_sem,↓reduceIte]; first | done | rfl | exact ⟨rfl, rfl⟩))
  rintro t0 ⟨rfl, hall⟩
  rw [if_pos rfl]
  refine run_wpc _ _ _ _ _ ?_
  simp only [hm,go_sem,↓reduceIte]
  repeat' first | refine And.intro ?_ ?_ | intro _ | (refine c_l6In hP ?_; simp only [hm,go_sem,↓reduceIte])
  all_goals first
    | (apply bo_inj; rw [Bool.eq_iff_iff]; simp [packB, hall, *]; done)
    | (apply bo_inj; rw [Bool.eq_iff_iff]; simp [packB, hall, inB, *]; omega)
    | (apply bo_inj; rw [Bool.eq_iff_iff]; simp only [packB, hall, Bool.and_eq_true, decide_eq_true_eq, *]; simp [inB] at *; omega)
theorem s_l13Sum (s : List UInt8) (h : 12 ≤ s.length ∧ s.length ≤ 2000000) : Spec Tryz.prog 75 0 [] [.st s] (fun r _ _ _ => r = .i (sumOf (s.take 8 ++ [0, 0, 0, 0] ++ s.drop 12))) := by
  refine mk75 rfl fun c hP hm => ?_
  unfold pc75
  have e8 : (8 : Int).toNat = 8 := by decide
  have e12 : (12 : Int).toNat = 12 := by decide
  have et : List.take s.length s = s := List.take_length
  simp only [e8, e12, et, Int.toNat_natCast, List.drop_zero, List.length_append, List.length_take, List.length_drop, List.length_cons, List.length_nil, hm,go_sem,↓reduceIte]
  repeat' first | refine And.intro ?_ ?_ | intro _
  all_goals first
    | omega
    | (refine call_pure (hP ▸ s_l2Next (s.take 8 ++ [0, 0, 0, 0] ++ s.drop 12) (by simp only [List.length_append, List.length_take, List.length_drop, List.length_cons, List.length_nil]; omega)) rfl rfl ?_
       simp only [e8, e12, et, Int.toNat_natCast, List.drop_zero, List.length_append, List.length_take, List.length_drop, List.length_cons, List.length_nil, hm,go_sem,↓reduceIte]
       repeat' first | refine And.intro ?_ ?_ | intro _
       all_goals first
         | omega
         | rfl
         )
theorem s_l1At (s : List UInt8) (i : Int) (h : 0 ≤ i ∧ i + 1 < s.length) (hs : s.length ≤ 1000000000) : Spec Tryz.prog 74 0 [] [.st s, .i i] (fun r _ _ _ => r = .i (at2 s i.toNat)) := by
  refine mk74 rfl fun c hP hm => ?_
  unfold pc74
  simp only [hm,go_sem,↓reduceIte]
  have h1 := byte_lt (s.getD i.toNat 0)
  have e : (i + 1).toNat = i.toNat + 1 := by omega
  have hw : IntKind.i64.wrap (i + 1) = i + 1 := wrap64 (by omega) (by omega)
  have h2 := byte_lt (s.getD (i.toNat + 1) 0)
  have h3 : (0 : Int) ≤ (s.getD i.toNat 0).toNat := Int.natCast_nonneg _
  have h4 : (0 : Int) ≤ (s.getD (i.toNat + 1) 0).toNat := Int.natCast_nonneg _
  unfold at2
  rw [hw, e]
  generalize ((s.getD i.toNat 0).toNat : Int) = a at *
  generalize ((s.getD (i.toNat + 1) 0).toNat : Int) = b at *
  repeat' first | refine And.intro ?_ ?_ | intro _
  all_goals first
    | omega
    | rfl
    | (simp (disch := omega) only [wrap64])
theorem c_l1At {c : Cx} (hP : c.P = Tryz.prog) {s : List UInt8} {i : Int} (h : 0 ≤ i ∧ i + 1 < s.length) (hs : s.length ≤ 1000000000) {st : St} {K : AV → St → Prop} (hK : K (.i (at2 s i.toNat)) st) : Call c 74 [.st s, .i i] st K :=
  call_pure (hP ▸ s_l1At s i h hs) rfl rfl hK
theorem tdiv_nn {a b : Int} (h : 0 ≤ a) : a.tdiv b = a / b := Int.tdiv_eq_ediv_of_nonneg h
theorem tmod_nn {a b : Int} (h : 0 ≤ a) : a.tmod b = a % b := Int.tmod_eq_emod_of_nonneg h
theorem beq_dec (a b : Int) : (a == b) = decide (a = b) := by by_cases h : a = b <;> simp [h]
theorem inB_iff {a b c : Int} : inB a b c = true ↔ b ≤ a ∧ a ≤ c := by unfold inB; simp
def dataRaw (k : Chunk) : Data := ⟨at2 k.body 0, at2 k.body 2, at2 k.body 4, (IntKind.i64.wrap (k.flags.tdiv 2)).tmod 2 == 1, k.flags.tmod 2 == 1, IntKind.i64.wrap (k.flags.tdiv 4) == 1, List.drop 6 (List.take ((k.body.length : Int)).toNat k.body)⟩
theorem dataOf_eq {k : Chunk} (hf : inB k.flags 0 7 = true) : dataOf k = dataRaw k := by
  obtain ⟨h0, h7⟩ := inB_iff.1 hf
  unfold dataOf dataRaw
  rw [tdiv_nn h0, tmod_nn h0, tdiv_nn h0, wrap64 (by omega) (by omega), wrap64 (by omega) (by omega), tmod_nn (by omega), beq_dec, beq_dec, beq_dec, Int.toNat_natCast, List.take_length]
theorem dataGet_none {k : Chunk} (h : k.kind = 0 → inB k.flags 0 7 = true → 6 ≤ k.body.length → dataB (dataOf k) = true → False) : dataGet k = none := by
  unfold dataGet
  rw [if_neg]
  simp only [Bool.and_eq_true, decide_eq_true_eq]
  rintro ⟨⟨⟨h1, h2⟩, h3⟩, h4⟩
  exact h h1 h2 h3 h4
theorem dataGet_some {k : Chunk} (h1 : k.kind = 0) (h2 : inB k.flags 0 7 = true) (h3 : 6 ≤ k.body.length) (h4 : dataB (dataOf k) = true) : dataGet k = some (dataOf k) := by
  unfold dataGet
  rw [if_pos]
  simp only [Bool.and_eq_true, decide_eq_true_eq]
  exact ⟨⟨⟨h1, h2⟩, h3⟩, h4⟩
theorem s_specDataGet (k : Chunk) (hs : k.body.length ≤ 1000000000) : Spec Tryz.prog 127 0 [] [k.av] (fun r _ _ _ => r = .tup [((dataGet k).getD noData).av, .bo (dataGet k).isSome]) := by
  refine mk127 rfl fun c hP hm => ?_
  unfold pc127 Chunk.av
  simp only [hm,go_sem,↓reduceIte]
  repeat' first
    | refine And.intro ?_ ?_
    | intro _
    | (refine c_l6In hP ?_; simp only [hm,go_sem,↓reduceIte])
    | (refine c_l1At hP (by omega) hs ?_; simp only [hm,go_sem,↓reduceIte])
    | (refine call_pure (hP ▸ s_l12Data (dataRaw k) (by simp [dataRaw]; omega)) rfl rfl ?_; simp only [hm,go_sem,↓reduceIte])
  all_goals first
    | omega
    | (rename_i hk hf hl hB; rw [dataGet_some hk hf (by omega) (by rw [dataOf_eq hf]; exact hB), dataOf_eq hf]; rfl)
    | (rename_i hB; rw [dataGet_none (k := k) fun h1 h2 h3 h4 => by rw [dataOf_eq h2, hB] at h4; cases h4]; rfl)
    | (rw [dataGet_none (k := k) fun h1 h2 h3 h4 => by first | omega | (simp_all; done)]; rfl)
theorem initGet_none {k : Chunk} (h : (k.kind = 1 ∨ k.kind = 2) → k.flags = 0 → k.body.length = 10 → initB (initOf k) = true → False) : initGet k = none := by
  unfold initGet
  rw [if_neg]
  simp only [Bool.and_eq_true, decide_eq_true_eq]
  rintro ⟨⟨⟨h1, h2⟩, h3⟩, h4⟩
  exact h h1 h2 h3 h4
theorem initGet_some {k : Chunk} (h1 : k.kind = 1 ∨ k.kind = 2) (h2 : k.flags = 0) (h3 : k.body.length = 10) (h4 : initB (initOf k) = true) : initGet k = some (initOf k) := by
  unfold initGet
  rw [if_pos]
  simp only [Bool.and_eq_true, decide_eq_true_eq]
  exact ⟨⟨⟨h1, h2⟩, h3⟩, h4⟩
theorem at4_wrap (s : List UInt8) (i : Nat) : IntKind.i64.wrap (IntKind.i64.wrap (65536 * at2 s i) + at2 s (i + 2)) = at4 s i := by
  have h1 := at2_range s i
  have h2 := at2_range s (i + 2)
  rw [wrap64 (x := 65536 * at2 s i) (by omega) (by omega), wrap64 (by omega) (by omega)]; rfl
theorem s_specInitGet (k : Chunk) (hs : k.body.length ≤ 1000000000) : Spec Tryz.prog 48 0 [] [k.av] (fun r _ _ _ => r = .tup [((initGet k).getD noInit).av, .bo (initGet k).isSome]) := by
  refine mk48 rfl fun c hP hm => ?_
  unfold pc48 Chunk.av
  have e4 := at4_wrap k.body 0
  simp only [hm,go_sem,↓reduceIte]
  repeat' first
    | refine And.intro ?_ ?_
    | intro _
    | (refine c_l6In hP ?_; simp only [hm,go_sem,↓reduceIte])
    | (refine c_l1At hP (by omega) hs ?_; simp only [hm,go_sem,↓reduceIte])
    | (simp only [e4, hm,go_sem,↓reduceIte]; refine call_pure (hP ▸ s_l12Init (initOf k)) rfl rfl ?_; simp only [hm,go_sem,↓reduceIte])
    | (refine call_pure (hP ▸ s_l12Init ⟨_, _, _, _⟩) rfl rfl ?_; simp only [hm,go_sem,↓reduceIte])
  all_goals first
    | omega
    | (rename_i hB; rw [initGet_some (k := k) (by omega) (by omega) (by omega) (by exact hB)]; rfl)
    | (rename_i hB; rw [initGet_none (k := k) fun h1 h2 h3 h4 => by rw [hB] at h4; cases h4]; rfl)
    | (rw [initGet_none (k := k) fun h1 h2 h3 h4 => by first | omega | (simp_all; done)]; rfl)
theorem or64 {a b k : Nat} (hb : b < 2 ^ k) (h : a * 2 ^ k + b < 2 ^ 62) : bitOr .i64 ((a * 2 ^ k : Nat) : Int) (b : Int) = ((a * 2 ^ k + b : Nat) : Int) := by
  have hb62 : b < 2 ^ 64 := by omega
  have ha62 : a * 2 ^ k < 2 ^ 64 := by omega
  have e3 : a * 2 ^ k ||| b = a * 2 ^ k + b := by
    have := Nat.shiftLeft_add_eq_or_of_lt hb a
    rw [Nat.shiftLeft_eq] at this
    exact this.symm
  have e0 : bitOr .i64 ((a * 2 ^ k : Nat) : Int) (b : Int) = IntKind.i64.wrap ((BitVec.ofInt 64 ((a * 2 ^ k : Nat) : Int) ||| BitVec.ofInt 64 (b : Int) : BitVec 64).toNat : Nat) := rfl
  rw [e0, BitVec.ofInt_natCast, BitVec.ofInt_natCast, BitVec.toNat_or, BitVec.toNat_ofNat, BitVec.toNat_ofNat, Nat.mod_eq_of_lt ha62, Nat.mod_eq_of_lt hb62, e3, wrap64 (by omega) (by omega)]
theorem shl64 {a k : Nat} (hk : k ≤ 64) (h : a * 2 ^ k < 2 ^ 62) : shiftL .i64 (a : Int) (k : Int) = ((a * 2 ^ k : Nat) : Int) := by
  unfold shiftL
  have : min (k : Int).toNat IntKind.i64.bits = k := by rw [Int.toNat_natCast]; exact Nat.min_eq_left hk
  rw [this]
  have e : (a : Int) * 2 ^ k = ((a * 2 ^ k : Nat) : Int) := by simp
  rw [e, wrap64 (by omega) (by omega)]
theorem word_or (a b : UInt8) : bitOr .i64 (shiftL .i64 (a.toNat : Int) 8) (b.toNat : Int) = 256 * (a.toNat : Int) + b.toNat := by
  have ha := a.toNat_lt
  have hb := b.toNat_lt
  have h1 := shl64 (a := a.toNat) (k := 8) (by omega) (by omega)
  have h2 := or64 (a := a.toNat) (b := b.toNat) (k := 8) (by omega) (by omega)
  rw [show (8 : Int) = ((8 : Nat) : Int) from rfl, h1, h2]
  omega
theorem long_or (a b c d : UInt8) : bitOr .i64 (bitOr .i64 (bitOr .i64 (shiftL .i64 (a.toNat : Int) 24) (shiftL .i64 (b.toNat : Int) 16)) (shiftL .i64 (c.toNat : Int) 8)) (d.toNat : Int) = 65536 * (256 * (a.toNat : Int) + b.toNat) + (256 * (c.toNat : Int) + d.toNat) := by
  have ha := a.toNat_lt
  have hb := b.toNat_lt
  have hc := c.toNat_lt
  have hd := d.toNat_lt
  have h1 := shl64 (a := a.toNat) (k := 24) (by omega) (by omega)
  have h2 := shl64 (a := b.toNat) (k := 16) (by omega) (by omega)
  have h3 := shl64 (a := c.toNat) (k := 8) (by omega) (by omega)
  have o1 := or64 (a := a.toNat) (b := b.toNat * 2 ^ 16) (k := 24) (by omega) (by omega)
  have e1 : a.toNat * 2 ^ 24 + b.toNat * 2 ^ 16 = (a.toNat * 2 ^ 8 + b.toNat) * 2 ^ 16 := by omega
  rw [e1] at o1
  obtain ⟨x, hx⟩ : ∃ x, x = a.toNat * 2 ^ 8 + b.toNat := ⟨_, rfl⟩
  rw [← hx] at o1
  have hx1 : x < 65536 := by omega
  have o2 := or64 (a := x) (b := c.toNat * 2 ^ 8) (k := 16) (by omega) (by omega)
  have e2 : x * 2 ^ 16 + c.toNat * 2 ^ 8 = (x * 2 ^ 8 + c.toNat) * 2 ^ 8 := by clear o1 o2 h1 h2 h3 e1; omega
  rw [e2] at o2
  obtain ⟨y, hy⟩ : ∃ y, y = x * 2 ^ 8 + c.toNat := ⟨_, rfl⟩
  rw [← hy] at o2
  have hy1 : y < 16777216 := by clear o1 o2 e2 h1 h2 h3 e1; omega
  have o3 := or64 (a := y) (b := d.toNat) (k := 8) (by clear o1 o2 e2 h1 h2 h3 e1; omega) (by clear o1 o2 e2 h1 h2 h3 e1; omega)
  rw [show (24 : Int) = ((24 : Nat) : Int) from rfl, show (16 : Int) = ((16 : Nat) : Int) from rfl, show (8 : Int) = ((8 : Nat) : Int) from rfl, h1, h2, h3, o1, o2, o3]
  omega
theorem wrap_byte (a : UInt8) : IntKind.i64.wrap (a.toNat : Int) = a.toNat := by have := a.toNat_lt; exact wrap64 (by omega) (by omega)
theorem s_WordGet (s : List UInt8) (i : Int) (h : 0 ≤ i ∧ i + 2 ≤ s.length) (hs : s.length ≤ 1000000000) : Spec Tryz.prog 67 0 [] [.st s, .i i] (fun r _ _ _ => r = .tup [.i (at2 s i.toNat), .bo true]) := by
  refine mk67 rfl fun c hP hm => ?_
  unfold pc67
  have w1 : IntKind.i64.wrap ((s.length : Int) - 2) = (s.length : Int) - 2 := wrap64 (by omega) (by omega)
  have w2 : IntKind.i64.wrap (i + 1) = i + 1 := wrap64 (by omega) (by omega)
  have e : (i + 1).toNat = i.toNat + 1 := by omega
  simp only [hm,go_sem,↓reduceIte]
  simp only [w1, w2, e, wrap_byte, word_or]
  repeat' first | refine And.intro ?_ ?_ | intro _
  all_goals first
    | omega
    | rfl
theorem s_LongGet (s : List UInt8) (i : Int) (h : 0 ≤ i ∧ i + 4 ≤ s.length) (hs : s.length ≤ 1000000000) : Spec Tryz.prog 65 0 [] [.st s, .i i] (fun r _ _ _ => r = .tup [.i (at4 s i.toNat), .bo true]) := by
  refine mk65 rfl fun c hP hm => ?_
  unfold pc65
  have w1 : IntKind.i64.wrap ((s.length : Int) - 4) = (s.length : Int) - 4 := wrap64 (by omega) (by omega)
  have w2 : IntKind.i64.wrap (i + 1) = i + 1 := wrap64 (by omega) (by omega)
  have w3 : IntKind.i64.wrap (i + 2) = i + 2 := wrap64 (by omega) (by omega)
  have w4 : IntKind.i64.wrap (i + 3) = i + 3 := wrap64 (by omega) (by omega)
  have e : (i + 1).toNat = i.toNat + 1 := by omega
  have e2 : (i + 2).toNat = i.toNat + 2 := by omega
  have e3 : (i + 3).toNat = i.toNat + 3 := by omega
  simp only [hm,go_sem,↓reduceIte]
  simp only [w1, w2, w3, w4, e, e2, e3, wrap_byte, long_or]
  repeat' first | refine And.intro ?_ ?_ | intro _
  all_goals first
    | omega
    | rfl
theorem and_flags {f : Int} (h : 0 ≤ f ∧ f ≤ 7) : (bitAnd .i64 f 2 != 0) = decide (f / 2 % 2 = 1) ∧ (bitAnd .i64 f 1 != 0) = decide (f % 2 = 1) ∧ (bitAnd .i64 f 4 != 0) = decide (f / 4 = 1) := by
  have : f = 0 ∨ f = 1 ∨ f = 2 ∨ f = 3 ∨ f = 4 ∨ f = 5 ∨ f = 6 ∨ f = 7 := by omega
  rcases this with rfl | rfl | rfl | rfl | rfl | rfl | rfl | rfl <;> decide
theorem dataOf_and {k : Chunk} (hf : inB k.flags 0 7 = true) : dataOf k = ⟨at2 k.body 0, at2 k.body 2, at2 k.body 4, bitAnd .i64 k.flags 2 != 0, bitAnd .i64 k.flags 1 != 0, bitAnd .i64 k.flags 4 != 0, List.drop 6 (List.take ((k.body.length : Int)).toNat k.body)⟩ := by
  obtain ⟨h1, h2, h3⟩ := and_flags (inB_iff.1 hf)
  rw [h1, h2, h3, Int.toNat_natCast, List.take_length]
  rfl
theorem s_implDataGet (k : Chunk) (hs : k.body.length ≤ 1000000000) : Spec Tryz.prog 109 0 [] [k.av] (fun r _ _ _ => r = .tup [((dataGet k).getD noData).av, .bo (dataGet k).isSome]) := by
  refine mk109 rfl fun c hP hm => ?_
  unfold pc109 Chunk.av
  simp only [hm,go_sem,↓reduceIte]
  repeat' first
    | refine And.intro ?_ ?_
    | intro _
    | (refine call_pure (hP ▸ s_WordGet _ _ (by omega) hs) rfl rfl ?_; simp only [hm,go_sem,↓reduceIte])
    | (refine call_pure (hP ▸ s_dataOk (⟨at2 k.body 0, at2 k.body 2, at2 k.body 4, bitAnd .i64 k.flags 2 != 0, bitAnd .i64 k.flags 1 != 0, bitAnd .i64 k.flags 4 != 0, List.drop 6 (List.take ((k.body.length : Int)).toNat k.body)⟩) (by simp; omega)) rfl rfl ?_; simp only [hm,go_sem,↓reduceIte])
  all_goals first
    | omega
    | (rw [dataGet_none (k := k) fun h1 h2 h3 h4 => by have := inB_iff.1 h2; omega]; rfl)
    | (rename_i hB
       have hf : inB k.flags 0 7 = true := inB_iff.2 (by omega)
       rw [dataGet_some (k := k) (by omega) hf (by omega) (by rw [dataOf_and hf]; exact hB), dataOf_and hf]; rfl)
    | (rename_i hB
       have hf : inB k.flags 0 7 = true := inB_iff.2 (by omega)
       rw [dataGet_none (k := k) fun h1 h2 h3 h4 => by rw [dataOf_and hf, hB] at h4; cases h4]; rfl)
theorem s_implInitGet (k : Chunk) (hs : k.body.length ≤ 1000000000) : Spec Tryz.prog 40 0 [] [k.av] (fun r _ _ _ => r = .tup [((initGet k).getD noInit).av, .bo (initGet k).isSome]) := by
  refine mk40 rfl fun c hP hm => ?_
  unfold pc40 Chunk.av
  simp only [hm,go_sem,↓reduceIte]
  repeat' first
    | refine And.intro ?_ ?_
    | intro _
    | (refine call_pure (hP ▸ s_WordGet _ _ (by omega) hs) rfl rfl ?_; simp only [hm,go_sem,↓reduceIte])
    | (refine call_pure (hP ▸ s_LongGet _ _ (by omega) hs) rfl rfl ?_; simp only [hm,go_sem,↓reduceIte])
    | (refine call_pure (hP ▸ s_initOk (initOf k)) rfl rfl ?_; simp only [hm,go_sem,↓reduceIte])
  all_goals first
    | omega
    | (rename_i hB; rw [initGet_some (k := k) (by omega) (by omega) (by omega) (by exact hB)]; rfl)
    | (rename_i hB; rw [initGet_none (k := k) fun h1 h2 h3 h4 => by rw [hB] at h4; cases h4]; rfl)
    | (rw [initGet_none (k := k) fun h1 h2 h3 h4 => by first | omega | (simp_all; done)]; rfl)
theorem s_l31Side (a : Assoc) (byB : Bool) : Spec Tryz.prog 113 0 [] [a.ro, .bo byB] (fun r _ _ _ => r = .tup [(a.own byB).ro, (a.other byB).ro]) := by
  refine mk113 rfl fun c hP hm => ?_
  unfold pc113 Assoc.ro Assoc.av
  cases byB <;> simp only [hm,go_sem,↓reduceIte] <;> rfl
theorem s_l31With (a : Assoc) (byB : Bool) (s : Side) : Spec Tryz.prog 126 0 [] [a.ro, .bo byB, s.ro] (fun r _ _ _ => r = (a.put byB s).ro) := by
  refine mk126 rfl fun c hP hm => ?_
  unfold pc126 Assoc.ro Assoc.av Side.ro Side.av
  cases byB <;> simp only [hm,go_sem,↓reduceIte] <;> rfl
def resA (x : Assoc × Int) : AV := .tup [x.1.ro, .i x.2]
theorem resA_eq {fr to st : Int} {bb : Bool} {A B : Side} {n : Int} {x : Assoc × Int} (h : ((⟨fr, to, st, bb, A, B⟩ : Assoc), n) = x) :
    AV.tup [.agg [.i fr, .i to, .i st, .bo bb, .i A.tag, .i A.streams, .i A.first, .r (.ro none (A.sent.map Data.row)), .i A.acked, .i B.tag, .i B.streams, .i B.first, .r (.ro none (B.sent.map Data.row)), .i B.acked], .i n] = resA x := by subst h; rfl
theorem inB_dec (a b c : Int) : inB a b c = decide (b ≤ a ∧ a ≤ c) := rfl
set_option maxHeartbeats 2000000 in
theorem s_l31End (a : Assoc) (byB : Bool) (k : Int) (hk : k = 6 ∨ k = 7 ∨ k = 8 ∨ k = 14) : Spec Tryz.prog 117 0 [] [a.ro, .bo byB, .i k] (fun r _ _ _ => r = resA (stepEnd a byB k)) := by
  refine mk117 rfl fun c hP hm => ?_
  unfold pc117
  have hS := s_l31Side a byB
  obtain ⟨fr, to, st, bb, A, B⟩ := a
  unfold Assoc.ro Assoc.av at hS ⊢
  simp only [hm,go_sem,↓reduceIte]
  refine call_data (hP ▸ hS) (by cases byB <;> rfl) rfl ?_
  unfold stepEnd
  have hown : ∃ o o' : Side, (Assoc.mk fr to st bb A B).own byB = o ∧ (Assoc.mk fr to st bb A B).other byB = o' := ⟨_, _, rfl, rfl⟩
  obtain ⟨o, o', h1, h2⟩ := hown
  rw [h1, h2]
  clear hS h1 h2
  have hdone : ((o.acked == (o.sent.length : Int)) : Bool) = decide (o.acked = o.sent.length) := beq_dec _ _
  generalize decide (o.acked = o.sent.length) = done at *
  simp only [List.length_map, hdone, Side.ro, Side.av, hm,go_sem,↓reduceIte]
  intro _
  rcases hk with rfl | rfl | rfl | rfl <;> cases byB <;> cases bb <;> cases done
  all_goals
    simp only [inB_dec, hm,go_sem,↓reduceIte]
    repeat' first
      | refine And.intro ?_ ?_
      | intro _
      | (refine c_l6In hP ?_; simp only [inB_dec, hm,go_sem,↓reduceIte])
  all_goals first
    | omega
    | (refine resA_eq ?_
       try simp only [inB_dec, Int.reduceEq, if_true, if_false, Bool.and_true, Bool.and_false, Bool.not_true, Bool.not_false, beq_self_eq_true, bne_self_eq_false, Bool.and_eq_true, decide_eq_true_eq, Bool.false_eq_true, reduceCtorEq]
       repeat' split
       all_goals first
         | rfl
         | (exfalso; omega)
         | (exfalso; simp_all; done)
         | (exfalso; simp_all; omega))
theorem s_l31Cookie (a : Assoc) (byB : Bool) (k : Int) : Spec Tryz.prog 118 0 [] [a.ro, .bo byB, .i k] (fun r _ _ _ => r = resA (stepRest a byB k)) := by
  refine mk118 rfl fun c hP hm => ?_
  obtain ⟨fr, to, st, bb, A, B⟩ := a
  unfold pc118 Assoc.ro Assoc.av stepRest
  cases byB
  all_goals
    simp only [inB_dec, hm,go_sem,↓reduceIte]
    repeat' first
      | refine And.intro ?_ ?_
      | intro _
      | (refine c_l6In hP ?_; simp only [inB_dec, hm,go_sem,↓reduceIte])
  all_goals first
    | omega
    | (refine resA_eq ?_
       try simp only [inB_dec, Int.max_def, Bool.true_and, Bool.false_and, Bool.not_true, Bool.not_false, Bool.and_eq_true, decide_eq_true_eq, Bool.false_eq_true, reduceCtorEq, if_true, if_false]
       repeat' split
       all_goals first
         | rfl
         | (exfalso; omega)
         | (exfalso; simp_all; done)
         | (exfalso; simp_all; omega)
         | (simp only [Prod.mk.injEq, Assoc.mk.injEq, true_and, and_true]; omega))
theorem resA_eq' {fr to st : Int} {bb : Bool} {t1 s1 f1 c1 t2 s2 f2 c2 : Int} {l1 l2 : List Data} {L1 L2 : List (List RV)} {n : Int} {x : Assoc × Int} (h1 : L1 = l1.map Data.row) (h2 : L2 = l2.map Data.row) (h : ((⟨fr, to, st, bb, ⟨t1, s1, f1, l1, c1⟩, ⟨t2, s2, f2, l2, c2⟩⟩ : Assoc), n) = x) :
    AV.tup [.agg [.i fr, .i to, .i st, .bo bb, .i t1, .i s1, .i f1, .r (.ro none L1), .i c1, .i t2, .i s2, .i f2, .r (.ro none L2), .i c2], .i n] = resA x := by subst h; subst h1; subst h2; rfl
set_option maxHeartbeats 2000000 in
theorem s_l31Init (a : Assoc) (byB : Bool) (k : Chunk) (hs : k.body.length ≤ 1000000000) : Spec Tryz.prog 114 0 [] [a.ro, .bo byB, k.av] (fun r _ _ _ => r = resA (stepInit a byB k)) := by
  have hS := s_l31Side a byB
  have hG := s_specInitGet k hs
  obtain ⟨fr, to, st, bb, A, B⟩ := a
  have hWt := fun x : Init => s_l31With ⟨fr, to, st + 1, bb, A, B⟩ byB ⟨x.tag, x.streams, x.tsn, [], 0⟩
  refine mk114 rfl fun c hP hm => ?_
  unfold pc114
  unfold stepInit
  unfold Assoc.ro Assoc.av at hS ⊢
  unfold Chunk.av at hG ⊢
  simp only [hm,go_sem,↓reduceIte]
  refine call_data (hP ▸ hG) rfl rfl ?_
  have hw1 : st = 0 ∨ st = 1 → IntKind.i64.wrap (st + 1) = st + 1 := fun h => by rw [wrap64 (by omega) (by omega)]
  obtain ⟨kk, kf, kb⟩ := k
  generalize initGet ⟨kk, kf, kb⟩ = g
  cases g with
  | none =>
    cases byB
    all_goals
      simp only [Option.getD_none, Option.isSome_none, noInit, Init.av, inB_dec, hm,go_sem,↓reduceIte]
      repeat' first
        | refine And.intro ?_ ?_
        | intro _
        | (refine c_l6In hP ?_; simp only [inB_dec, hm,go_sem,↓reduceIte])
        | (refine call_data (hP ▸ hS) rfl rfl ?_; simp only [Assoc.own, Assoc.other, Side.ro, Side.av, Bool.false_eq_true, if_false, if_true, inB_dec, hm,go_sem,↓reduceIte])
    all_goals first
      | omega
      | (refine resA_eq ?_
         try simp only [inB_dec, Bool.and_eq_true, Bool.or_eq_true, decide_eq_true_eq, Bool.not_eq_true', Bool.or_eq_false_iff, Bool.and_eq_false_iff, decide_eq_false_iff_not, Bool.and_true, Bool.and_false, Bool.or_false, Bool.false_or, Bool.not_true, Bool.not_false, Bool.true_and, Bool.false_and]
         repeat' split
         all_goals first
           | rfl
           | (exfalso; omega)
           | (exfalso; simp_all; done)
           | (exfalso; simp_all; omega))
  | some x =>
    cases byB
    all_goals
      simp only [Option.getD_some, Option.isSome_some, Init.av, inB_dec, hm,go_sem,↓reduceIte]
      repeat' first
        | refine And.intro ?_ ?_
        | intro _
        | (refine c_l6In hP ?_; simp only [inB_dec, hm,go_sem,↓reduceIte])
        | (refine call_data (hP ▸ hS) rfl rfl ?_; simp only [Assoc.own, Assoc.other, Side.ro, Side.av, Bool.false_eq_true, if_false, if_true, inB_dec, hm,go_sem,↓reduceIte])
        | (refine call_frz 6 rfl rfl (by simp only [go_sem, ↓reduceIte]) ?_; rw [hw1 (by omega)]; simp only [List.drop_nil, List.take_nil, List.take_zero, hm,go_sem,↓reduceIte]; refine call_data (hP ▸ hWt x) rfl rfl ?_; simp only [Assoc.put, Assoc.ro, Assoc.av, Bool.false_eq_true, if_false, if_true, inB_dec, hm,go_sem,↓reduceIte])
    all_goals first
      | omega
      | (refine resA_eq ?_
         try simp only [Assoc.own, inB_dec, Bool.and_eq_true, Bool.or_eq_true, decide_eq_true_eq, Bool.not_eq_true', Bool.or_eq_false_iff, Bool.and_eq_false_iff, decide_eq_false_iff_not, Bool.and_true, Bool.and_false, Bool.or_false, Bool.false_or, Bool.not_true, Bool.not_false, Bool.true_and, Bool.false_and]
         repeat' split
         all_goals first
           | rfl
           | (exfalso; omega)
           | (exfalso; simp_all; done)
           | (exfalso; simp_all; omega))
      | (first | refine resA_eq' (l1 := []) rfl rfl ?_ | refine resA_eq' (l2 := []) rfl rfl ?_
         try simp only [Assoc.own, Assoc.put, inB_dec, Bool.and_eq_true, Bool.or_eq_true, decide_eq_true_eq, Bool.not_eq_true', Bool.or_eq_false_iff, Bool.and_eq_false_iff, decide_eq_false_iff_not, Bool.and_true, Bool.and_false, Bool.or_false, Bool.false_or, Bool.not_true, Bool.not_false, Bool.true_and, Bool.false_and]
         repeat' split
         all_goals first
           | rfl
           | (exfalso; omega)
           | (exfalso; simp_all; done)
           | (exfalso; simp_all; omega))
def SW (s : Side) : Prop := (0 ≤ s.first ∧ s.first < 65536) ∧ s.sent.length ≤ 12 ∧ ∀ d ∈ s.sent, dataB d = true
def AW (a : Assoc) : Prop := SW a.a ∧ SW a.b
theorem AW.own {a : Assoc} (h : AW a) (b : Bool) : SW (a.own b) := by cases b; exact h.1; exact h.2
theorem AW.other {a : Assoc} (h : AW a) (b : Bool) : SW (a.other b) := by cases b; exact h.2; exact h.1
theorem AW.put {a : Assoc} (h : AW a) (b : Bool) {s : Side} (hs : SW s) : AW (a.put b s) := by cases b; exact ⟨hs, h.2⟩; exact ⟨h.1, hs⟩
theorem dataB_tsn {d : Data} (h : dataB d = true) : 0 ≤ d.tsn ∧ d.tsn < 65536 := by
  simp only [dataB, Bool.and_eq_true, serialB, decide_eq_true_eq] at h; omega
theorem dataB_text {d : Data} (h : dataB d = true) : d.text.length ≤ 20 := by
  simp only [dataB, Bool.and_eq_true, serialB, decide_eq_true_eq] at h; omega
theorem dataGet_ok {k : Chunk} {d : Data} (h : dataGet k = some d) : dataB d = true := by
  unfold dataGet at h
  split at h
  · rename_i hc
    simp only [Bool.and_eq_true] at hc
    cases h; exact hc.2
  · cases h
theorem initGet_ok {k : Chunk} {d : Init} (h : initGet k = some d) : initB d = true := by
  unfold initGet at h
  split at h
  · rename_i hc
    simp only [Bool.and_eq_true] at hc
    cases h; exact hc.2
  · cases h
theorem sackGet_ok {k : Chunk} {d : Sack} (h : sackGet k = some d) : sackB d = true := by
  unfold sackGet at h
  split at h
  · rename_i hc
    simp only [Bool.and_eq_true] at hc
    cases h; exact hc.2
  · cases h
theorem resA_a {a : Assoc} {n : Int} {x : Assoc × Int} (h : (a, n) = x) :
    AV.tup [.agg [.i a.fr, .i a.to, .i a.state, .bo a.byB, .i a.a.tag, .i a.a.streams, .i a.a.first, .r (.ro none (a.a.sent.map Data.row)), .i a.a.acked, .i a.b.tag, .i a.b.streams, .i a.b.first, .r (.ro none (a.b.sent.map Data.row)), .i a.b.acked], .i n] = resA x := by subst h; rfl
theorem s_l31Data0 (a : Assoc) (byB : Bool) (k : Chunk) (hs : k.body.length ≤ 1000000000) (hw : AW a) (hg : dataGet k = none) : Spec Tryz.prog 115 0 [] [a.ro, .bo byB, k.av] (fun r _ _ _ => r = resA (stepData a byB k)) := by
  have hS := s_l31Side a byB
  have hG := s_specDataGet k hs
  obtain ⟨⟨f0, f1⟩, hl, hd⟩ := hw.own byB
  unfold stepData
  obtain ⟨fr, to, st, bb, A, B⟩ := a
  refine mk115 rfl fun c hP hm => ?_
  unfold pc115
  unfold Assoc.ro Assoc.av at hS ⊢
  unfold Chunk.av at hG ⊢
  simp only [hm,go_sem,↓reduceIte]
  refine call_data (hP ▸ hG) rfl rfl ?_
  rw [hg]
  simp only [Option.getD_none, Option.isSome_none, noData, Data.av, hm,go_sem,↓reduceIte]
  refine call_data (hP ▸ hS) (by cases byB <;> rfl) rfl ?_
  generalize (Assoc.mk fr to st bb A B).own byB = o at f0 f1 hl hd
  generalize (Assoc.mk fr to st bb A B).other byB = o'
  clear hS hG hw
  cases byB <;> cases bb
  all_goals
    simp only [Side.ro, Side.av, hm,go_sem,↓reduceIte]
    repeat' first
      | refine And.intro ?_ ?_
      | intro _
  all_goals first
    | omega
    | (refine resA_a (a := ⟨fr, to, st, _, A, B⟩) ?_
       try simp only [Bool.and_eq_true, Bool.or_eq_true, decide_eq_true_eq, Bool.not_eq_true', Bool.or_eq_false_iff, Bool.and_eq_false_iff, decide_eq_false_iff_not, Bool.and_true, Bool.and_false, Bool.or_false, Bool.false_or, Bool.not_true, Bool.not_false, Bool.true_and, Bool.false_and, bne_self_eq_false, Bool.false_bne, Bool.true_bne]
       repeat' split
       all_goals first
         | rfl
         | (exfalso; omega)
         | (exfalso; simp_all; done)
         | (exfalso; simp_all; omega))
theorem resA_b {a : Assoc} {b : Bool} {n : Int} {x : Assoc × Int} (hb : a.byB = b) (h : (a, n) = x) :
    AV.tup [.agg [.i a.fr, .i a.to, .i a.state, .bo b, .i a.a.tag, .i a.a.streams, .i a.a.first, .r (.ro none (a.a.sent.map Data.row)), .i a.a.acked, .i a.b.tag, .i a.b.streams, .i a.b.first, .r (.ro none (a.b.sent.map Data.row)), .i a.b.acked], .i n] = resA x := by subst h; subst hb; rfl
set_option maxHeartbeats 2000000 in
theorem s_l31Data1 (a : Assoc) (byB : Bool) (k : Chunk) (d : Data) (hs : k.body.length ≤ 1000000000) (hw : AW a) (hg : dataGet k = some d) : Spec Tryz.prog 115 0 [] [a.ro, .bo byB, k.av] (fun r _ _ _ => r = resA (stepData a byB k)) := by
  have hS := s_l31Side a byB
  have hG := s_specDataGet k hs
  have hW := fun s => s_l31With a byB s
  obtain ⟨⟨f0, f1⟩, hl, hd⟩ := hw.own byB
  have hdb := dataGet_ok hg
  have ht := dataB_tsn hdb
  unfold stepData
  refine mk115 rfl fun c hP hm => ?_
  unfold pc115
  have hu : a.ro = .agg [.i a.fr, .i a.to, .i a.state, .bo a.byB, .i a.a.tag, .i a.a.streams, .i a.a.first, .r (.ro none (a.a.sent.map Data.row)), .i a.a.acked, .i a.b.tag, .i a.b.streams, .i a.b.first, .r (.ro none (a.b.sent.map Data.row)), .i a.b.acked] := rfl
  rw [hu] at hS hW ⊢
  unfold Chunk.av at hG ⊢
  simp only [hm,go_sem,↓reduceIte]
  refine call_data (hP ▸ hG) rfl rfl ?_
  rw [hg]
  simp only [Option.getD_some, Option.isSome_some, Data.av, hm,go_sem,↓reduceIte]
  refine call_data (hP ▸ hS) (by cases byB <;> rfl) rfl ?_
  have hn : IntKind.i64.wrap (0 - (a.own byB).first) = -(a.own byB).first := by rw [wrap64 (by omega) (by omega)]; omega
  have hK := l3_range d.tsn (-(a.own byB).first)
  generalize hoo : a.own byB = o at *
  generalize a.other byB = o' at *
  have hM := s_l31Follows o.sent d (by omega)
  unfold Data.av at hM
  have hA := s_l3Add d.tsn (-o.first) ht
  generalize l3 d.tsn (-o.first) = K at *
  generalize mayB o.sent d = mb at *
  simp only [Side.ro, Side.av, hn, hm,go_sem,↓reduceIte]
  intro _
  refine call_pure (hP ▸ hA) rfl rfl ?_
  generalize hbb : a.byB = bb at *
  by_cases hk : K < o.sent.length
  · have hil : K.toNat < o.sent.length := by omega
    have hgt := getD_map (f := Data.row) hil
    have hgx : o.sent.getD K.toNat noData = o.sent[K.toNat] := by simp [List.getD_eq_getElem?_getD, hil]
    rw [hgx]
    generalize o.sent[K.toNat] = x at hgt
    have hq : (x.tsn == d.tsn && (x.stream == d.stream && (x.ssn == d.ssn && (x.first == d.first && (x.last == d.last && (x.loose == d.loose && x.text == d.text)))))) = eqData x d := rfl
    clear hS hG hW hM hA
    cases byB <;> cases bb
    all_goals
      simp only [hgt, Data.row, hk, hm,go_sem,↓reduceIte]
      try simp only [hq, hm,go_sem,↓reduceIte]
      repeat' first
        | refine And.intro ?_ ?_
        | intro _
    all_goals first
      | omega
      | (refine resA_b hbb ?_
         try simp only [Bool.and_eq_true, Bool.or_eq_true, decide_eq_true_eq, Bool.not_eq_true', Bool.or_eq_false_iff, Bool.and_eq_false_iff, decide_eq_false_iff_not, Bool.and_true, Bool.and_false, Bool.or_false, Bool.false_or, Bool.not_true, Bool.not_false, Bool.true_and, Bool.false_and, bne_self_eq_false, Bool.false_bne, Bool.true_bne]
         repeat' split
         all_goals first
           | rfl
           | (exfalso; omega)
           | (exfalso; simp_all; done)
           | (exfalso; simp_all [eqData]; done)
           | (exfalso; simp_all; omega))
  · have hnl : ((o.sent.map Data.row).length : Int) = o.sent.length := by simp
    clear hS hG
    have hrow : List.take o.sent.length (o.sent.map Data.row) ++ [[.n .i64 d.tsn, .n .i64 d.stream, .n .i64 d.ssn, .b d.first, .b d.last, .b d.loose, .s d.text]] = (o.sent ++ [d]).map Data.row := by
      rw [take_map_len, List.map_append]; rfl
    have htk : List.take (o.sent.length + 1) ((o.sent ++ [d]).map Data.row) = (o.sent ++ [d]).map Data.row := List.take_of_length_le (by simp)
    have hrows : rowsN 7 (o.sent.map Data.row) := fun r hr => by obtain ⟨d, _, rfl⟩ := List.mem_map.1 hr; rfl
    cases byB <;> cases bb
    all_goals
      simp only [hk, hm,go_sem,↓reduceIte]
      repeat' first
        | refine And.intro ?_ ?_
        | intro _
        | (refine call_pure (hP ▸ hM) rfl rfl ?_; simp only [hrow, hm,go_sem,↓reduceIte])
        | (refine call_frz 6 rfl rfl (by simp only [List.length_map, List.length_append, List.length_cons, List.length_nil,go_sem,↓reduceIte]) ?_; simp only [htk, List.drop_zero, hm,go_sem,↓reduceIte]; refine call_data (hP ▸ hW { o with sent := o.sent ++ [d] }) rfl rfl ?_; simp only [Assoc.ro, Assoc.av, hm,go_sem,↓reduceIte])
        | (refine call_frz 7 rfl rfl (by simp only [List.length_map, List.length_append, List.length_cons, List.length_nil,go_sem,↓reduceIte]) ?_; simp only [htk, List.drop_zero, hm,go_sem,↓reduceIte]; refine call_data (hP ▸ hW { o with sent := o.sent ++ [d] }) rfl rfl ?_; simp only [Assoc.ro, Assoc.av, hm,go_sem,↓reduceIte])
        | (refine call_frz 8 rfl rfl (by simp only [List.length_map, List.length_append, List.length_cons, List.length_nil,go_sem,↓reduceIte]) ?_; simp only [htk, List.drop_zero, hm,go_sem,↓reduceIte]; refine call_data (hP ▸ hW { o with sent := o.sent ++ [d] }) rfl rfl ?_; simp only [Assoc.ro, Assoc.av, hm,go_sem,↓reduceIte])
        | (refine call_frz 5 rfl rfl (by simp only [List.length_map, List.length_append, List.length_cons, List.length_nil,go_sem,↓reduceIte]) ?_; simp only [htk, List.drop_zero, hm,go_sem,↓reduceIte]; refine call_data (hP ▸ hW { o with sent := o.sent ++ [d] }) rfl rfl ?_; simp only [Assoc.ro, Assoc.av, hm,go_sem,↓reduceIte])
    all_goals first
      | omega
      | exact hrows
      | (rename_i r hr; exact hrows r hr)
      | (simp only [List.length_map]; omega)
      | (refine resA_b hbb ?_
         try simp only [Bool.and_eq_true, Bool.or_eq_true, decide_eq_true_eq, Bool.not_eq_true', Bool.or_eq_false_iff, Bool.and_eq_false_iff, decide_eq_false_iff_not, Bool.and_true, Bool.and_false, Bool.or_false, Bool.false_or, Bool.not_true, Bool.not_false, Bool.true_and, Bool.false_and, bne_self_eq_false, Bool.false_bne, Bool.true_bne]
         repeat' split
         all_goals first
           | rfl
           | (exfalso; omega)
           | (exfalso; simp_all; done)
           | (exfalso; simp_all [eqData]; done)
           | (exfalso; simp_all; omega))
      | (refine resA_a ?_
         try simp only [Bool.and_eq_true, Bool.or_eq_true, decide_eq_true_eq, Bool.not_eq_true', Bool.or_eq_false_iff, Bool.and_eq_false_iff, decide_eq_false_iff_not, Bool.and_true, Bool.and_false, Bool.or_false, Bool.false_or, Bool.not_true, Bool.not_false, Bool.true_and, Bool.false_and, bne_self_eq_false, Bool.false_bne, Bool.true_bne]
         repeat' split
         all_goals first
           | rfl
           | (exfalso; omega)
           | (exfalso; simp_all; done)
           | (exfalso; simp_all; omega))
theorem s_l31Data (a : Assoc) (byB : Bool) (k : Chunk) (hs : k.body.length ≤ 1000000000) (hw : AW a) : Spec Tryz.prog 115 0 [] [a.ro, .bo byB, k.av] (fun r _ _ _ => r = resA (stepData a byB k)) := by
  cases hg : dataGet k with
  | none => exact s_l31Data0 a byB k hs hw hg
  | some d => exact s_l31Data1 a byB k d hs hw hg
theorem s_l3Diff (a b : Int) (ha : 0 ≤ a ∧ a < 65536) (hb : 0 ≤ b ∧ b < 65536) : Spec Tryz.prog 129 0 [] [.i a, .i b] (fun r _ _ _ => r = .i (l3d a b)) := by
  refine mk129 rfl fun c hP hm => ?_
  unfold pc129
  have hn : IntKind.i64.wrap (0 - a) = -a := by rw [wrap64 (by omega) (by omega)]; omega
  have hK := l3_range b (-a)
  unfold l3d
  simp only [hn, hm,go_sem,↓reduceIte]
  refine call_pure (hP ▸ s_l3Add b (-a) hb) rfl rfl ?_
  generalize l3 b (-a) = K at *
  have hw : IntKind.i64.wrap (K - 65536) = K - 65536 := wrap64 (by omega) (by omega)
  simp only [hw, hm,go_sem,↓reduceIte]
  repeat' first
    | refine And.intro ?_ ?_
    | intro _
  all_goals first
    | omega
    | (rw [if_pos (by omega)])
    | (rw [if_neg (by omega)])
def noSack : Sack := ⟨0, []⟩
theorem gapsOf_range : ∀ l : List UInt8, gapsOf l = (List.range (l.length / 4)).map fun i => (⟨at2 l (4 * i), at2 l (4 * i + 2)⟩ : Gap)
  | a :: b :: c :: d :: l => by
    rw [gapsOf, gapsOf_range l]
    have e : (a :: b :: c :: d :: l).length / 4 = l.length / 4 + 1 := by simp only [List.length_cons]; omega
    rw [e, List.range_succ_eq_map, List.map_cons, List.map_map]
    refine congr (congrArg List.cons rfl) ?_
    refine List.map_congr_left fun i _ => ?_
    show (⟨at2 l (4 * i), at2 l (4 * i + 2)⟩ : Gap) = ⟨at2 (a :: b :: c :: d :: l) (4 * (i + 1)), at2 (a :: b :: c :: d :: l) (4 * (i + 1) + 2)⟩
    have e1 : 4 * (i + 1) = 4 * i + 1 + 1 + 1 + 1 := by omega
    have e2 : 4 * (i + 1) + 2 = (4 * i + 2) + 1 + 1 + 1 + 1 := by omega
    rw [e2, e1]
    unfold at2
    have e3 : 4 * i + 1 + 1 + 1 + 1 + 1 = (4 * i + 1) + 1 + 1 + 1 + 1 := by omega
    have e4 : 4 * i + 2 + 1 + 1 + 1 + 1 + 1 = (4 * i + 2 + 1) + 1 + 1 + 1 + 1 := by omega
    rw [e3, e4]
    simp only [List.getD_cons_succ]
  | [] => by simp [gapsOf]
  | [_] => by simp [gapsOf]
  | [_, _] => by simp [gapsOf]
  | [_, _, _] => by simp [gapsOf]
theorem at2_drop (s : List UInt8) (k i : Nat) : at2 (s.drop k) i = at2 s (k + i) := by
  unfold at2
  simp only [List.getD_eq_getElem?_getD, List.getElem?_drop, Nat.add_assoc]
def gapAt (s : List UInt8) (i : Nat) : Gap := ⟨at2 s (2 + 4 * i), at2 s (2 + 4 * i + 2)⟩
theorem gapsOf_body (s : List UInt8) : gapsOf (s.drop 2) = (List.range ((s.length - 2) / 4)).map (gapAt s) := by
  rw [gapsOf_range, List.length_drop]
  refine List.map_congr_left fun i _ => ?_
  simp only [gapAt, at2_drop, Nat.add_assoc]
theorem range_map_take {α : Type} (f : Nat → α) {n i : Nat} (h : i < n) : ((List.range n).map f).take (i + 1) = ((List.range n).map f).take i ++ [f i] := by
  rw [List.take_add_one]
  simp [h]
theorem s_specSackGet0 (k : Chunk) (hs : k.body.length ≤ 1000000) : Spec Tryz.prog 128 0 [] [k.av] (fun r hp _ _ => (sackGet k = none ∧ r = .tup [.agg [.i 0, .r .nil], .bo false]) ∨ ∃ x b, sackGet k = some x ∧ r = .tup [.agg [.i x.cum, .sl b 0 x.gaps.length], .bo true] ∧ hget hp b = some (.row 2 (x.gaps.map Gap.row))) := by
  have hnone : (k.kind = 3 → k.flags = 0 → k.body.length % 4 = 2 → sackB (sackOf k) = true → False) → sackGet k = none := fun h => by
    unfold sackGet
    rw [if_neg]
    simp only [Bool.and_eq_true, decide_eq_true_eq]
    rintro ⟨⟨⟨h1, h2⟩, h3⟩, h4⟩
    exact h h1 h2 h3 h4
  have hsome : k.kind = 3 → k.flags = 0 → k.body.length % 4 = 2 → sackB (sackOf k) = true → sackGet k = some (sackOf k) := fun h1 h2 h3 h4 => by
    unfold sackGet
    rw [if_pos]
    simp only [Bool.and_eq_true, decide_eq_true_eq]
    exact ⟨⟨⟨h1, h2⟩, h3⟩, h4⟩
  refine mr128 rfl fun c hP hm => ?_
  unfold pc128 Chunk.av
  refine run_seq (run_wpc _ _ _ _ _ ?_)
  simp only [hm,go_sem,↓reduceIte]
  refine run_seq (run_wpc _ _ _ _ _ ?_)
  simp only [hm,go_sem,↓reduceIte]
  rw [tmod_nn (by omega)]
  repeat' first | refine And.intro ?_ ?_ | intro _
  all_goals first
    | (left; refine hnone fun h1 h2 h3 h4 => ?_; omega)
    | (left; refine ⟨hnone fun h1 h2 h3 h4 => ?_, rfl⟩; omega)
    | skip
  rename_i hk hf hmod
  refine run_seq (run_wpc _ _ _ _ _ ?_)
  simp only [hm,go_sem,↓reduceIte]
  refine c_l1At hP (by omega) (by omega) ?_
  simp only [hm,go_sem,↓reduceIte]
  refine run_seq (run_wpc _ _ _ _ _ ?_)
  simp only [hm,go_sem,↓reduceIte]
  have hgs : (sackOf k).gaps = (List.range ((k.body.length - 2) / 4)).map (gapAt k.body) := gapsOf_body k.body
  have hlen : (sackOf k).gaps.length = (k.body.length - 2) / 4 := by rw [hgs]; simp
  have hcum : (sackOf k).cum = at2 k.body 0 := rfl
  have hnn : (k.body.length - 2) / 4 * 4 + 2 = k.body.length := by omega
  generalize hn : (k.body.length - 2) / 4 = n at hlen hgs hnn
  refine run_exit 0 (fun t0 => t0 = ⟨[(2, .ptr 1 0 0), (4, .ptr 3 0 0)], [(1, .var [.i 0, .r .nil]), (3, .var [.i (at2 k.body 0), .sl 2 0 n]), (2, .row 2 ((sackOf k).gaps.map Gap.row))], 4, []⟩) ?_ ?_
  · refine lp_wpc (α := Nat) (fun i => ⟨[(1, .ptr 0 0 0), (2, .ptr 1 0 0), (4, .ptr 3 0 0), (5, .i (2 + 4 * (i : Int)))], [(0, .var [.i k.kind, .i k.flags, .st k.body]), (1, .var [.i 0, .r .nil]), (3, .var [.i (at2 k.body 0), .sl 2 0 i]), (2, .row 2 (((sackOf k).gaps.take i).map Gap.row))], 4, []⟩)
      (fun i => i ≤ n) (fun i => n - i) 0 (Nat.zero_le _) (by rw [List.take_zero]; simp only [List.map_nil]; (refine le_ev [] ?_; simp only [hm,go_sem,↓reduceIte]; first | done | rfl | exact ⟨rfl, rfl⟩)) ?_
    intro i hi
    unfold pc128l0
    rcases Nat.lt_or_ge i n with hil | hil
    · have htk := range_map_take (gapAt k.body) hil
      rw [← hgs] at htk
      have hl : ((sackOf k).gaps.take i).length = i := by rw [List.length_take]; omega
      generalize (sackOf k).gaps.take i = gs at htk hl
      have hrt : List.take i (gs.map Gap.row) = gs.map Gap.row := List.take_of_length_le (by simp; omega)
      have hw4 : IntKind.i64.wrap (2 + 4 * (i : Int) + 4) = 2 + 4 * ((i + 1 : Nat) : Int) := by rw [wrap64 (by omega) (by omega)]; omega
      have hw2 : IntKind.i64.wrap (2 + 4 * (i : Int) + 2) = 2 + 4 * (i : Int) + 2 := wrap64 (by omega) (by omega)
      have e1 : (2 + 4 * (i : Int)).toNat = 2 + 4 * i := by omega
      have e2 : (2 + 4 * (i : Int) + 2).toNat = 2 + 4 * i + 2 := by omega
      simp only [hw4, hw2, hrt, hm,go_sem,↓reduceIte]
      repeat' first
        | refine And.intro ?_ ?_
        | intro _
        | (refine c_l1At hP (by omega) (by omega) ?_; simp only [hw4, hw2, hrt, e1, e2, hm,go_sem,↓reduceIte])
      all_goals first
        | omega
        | (simp only [List.length_map]; omega)
        | (refine ⟨i + 1, hil, by omega, ?_⟩
           rw [htk]
           simp only [List.map_append, List.map_cons, List.map_nil, Gap.row, gapAt]
           (refine le_ev [] ?_; simp only [hm,go_sem,↓reduceIte]; first | done | rfl | exact ⟨rfl, rfl⟩))
    · have : i = n := by omega
      subst this
      have htl : (sackOf k).gaps.take i = (sackOf k).gaps := by rw [← hlen, List.take_length]
      rw [htl]
      simp only [hm,go_sem,↓reduceIte]
      repeat' first | refine And.intro ?_ ?_ | intro _
      all_goals first
        | omega
        | (refine ⟨_, rfl, ?_⟩; (refine le_ev [] ?_; simp only [hm,go_sem,↓reduceIte]; first | done | rfl | exact ⟨rfl, rfl⟩))
  rintro t0 rfl
  have hcs := s_l12Sack (sackOf k) (by omega)
  unfold Sack.ro at hcs
  rw [← hcum, ← hlen]
  generalize hso : sackOf k = so at *
  refine run_wpc _ _ _ _ _ ?_
  simp only [hm,go_sem,↓reduceIte]
  refine call_flat (hP ▸ hcs) rfl (.cons (vw_agg (.cons (vw_self _ _ rfl) (.cons (Vw.full rfl (by simp)) .nil))) .nil) ?_
  simp only [hm,go_sem,↓reduceIte]
  repeat' first | refine And.intro ?_ ?_ | intro _
  all_goals first
    | omega
    | (rename_i hb; left; refine ⟨hnone fun h1 h2 h3 h4 => ?_, rfl⟩; rw [hb] at h4; cases h4)
    | (rename_i hb; left; refine hnone fun h1 h2 h3 h4 => ?_; rw [hb] at h4; cases h4)
    | (rename_i hb; right; exact ⟨so, 2, hsome (by omega) (by omega) (by omega) hb, rfl, rfl⟩)
theorem s_specSackGet (k : Chunk) (hs : k.body.length ≤ 1000000) : Spec Tryz.prog 128 0 [] [k.av] (Plain fun r => r = .tup [((sackGet k).getD noSack).ro, .bo (sackGet k).isSome]) := by
  refine Spec.le (s_specSackGet0 k hs) fun r hp nx gs h => ⟨_, [], 0, [], ⟨rfl, rfl, rfl, rfl⟩, fun c hc => ?_⟩
  rcases h with ⟨h, rfl⟩ | ⟨x, b, h, rfl, hb⟩
  · rw [h]
    refine Le.trans (t := ⟨[(0, .tup [.agg [.i 0, .r .nil], .bo false])], [], 0, []⟩) (le_ev [] (by simp only [hc,go_sem,↓reduceIte])) le_denil
  · rw [h]
    refine Le.trans (t := ⟨[(0, .tup [.agg [.i x.cum, .sl 0 0 x.gaps.length], .bo true])], [(0, .row 2 (x.gaps.map Gap.row))], 1, []⟩) (le_ev [(0, b)] (by simp only [hc, go_sem, ↓reduceIte, hb])) ?_
    refine Le.trans (le_frz 0 rfl (by simp only [List.length_map,go_sem,↓reduceIte]) (by simp only [go_sem, ↓reduceIte])) ?_
    simp only [take_map_len, List.drop_zero,go_sem,↓reduceIte]
    exact le_ev [] (by simp only [hc, Option.getD_some, Option.isSome_some, Sack.ro,go_sem,↓reduceIte])
theorem lastTo_eq {l : List Gap} (h : 0 < l.length) : lastTo l = (l[l.length - 1]'(by omega)).to := by
  unfold lastTo
  rw [List.getLast?_eq_getElem?, List.getElem?_eq_getElem (by omega)]
theorem gapsB_to : ∀ {l : List Gap} {last : Int}, 0 ≤ last → gapsB last l = true → ∀ g ∈ l, 0 ≤ g.to ∧ g.to ≤ 16
  | [], _, _, _, g, hg => by cases hg
  | x :: l, last, h0, h, g, hg => by
    simp only [gapsB, Bool.and_eq_true, decide_eq_true_eq] at h
    rcases List.mem_cons.1 hg with rfl | hg
    · omega
    · exact gapsB_to (l := l) (last := x.to) (by omega) h.2 g hg
theorem s_l31Sack (a : Assoc) (byB : Bool) (k : Chunk) (hs : k.body.length ≤ 1000000) (hw : AW a) : Spec Tryz.prog 116 0 [] [a.ro, .bo byB, k.av] (fun r _ _ _ => r = resA (stepSack a byB k)) := by
  have hS := s_l31Side a byB
  have hG := s_specSackGet k hs
  have hW := fun s => s_l31With a (!byB) s
  obtain ⟨⟨f0, f1⟩, hl, hd⟩ := hw.other byB
  refine mr116 rfl fun c hP hm => ?_
  unfold pc116
  have hu : a.ro = .agg [.i a.fr, .i a.to, .i a.state, .bo a.byB, .i a.a.tag, .i a.a.streams, .i a.a.first, .r (.ro none (a.a.sent.map Data.row)), .i a.a.acked, .i a.b.tag, .i a.b.streams, .i a.b.first, .r (.ro none (a.b.sent.map Data.row)), .i a.b.acked] := rfl
  rw [hu] at hS hW ⊢
  unfold Chunk.av at hG ⊢
  unfold stepSack
  refine run_seq (run_wpc _ _ _ _ _ ?_)
  simp only [hm,go_sem,↓reduceIte]
  refine run_seq (run_wpc _ _ _ _ _ ?_)
  simp only [hm,go_sem,↓reduceIte]
  refine call_dataP (hP ▸ hG) (by cases sackGet k <;> rfl) rfl ?_
  cases hg : sackGet k with
  | none =>
    simp only [Option.getD_none, Option.isSome_none, noSack, Sack.ro, List.map_nil, hm,go_sem,↓reduceIte]
    refine run_seq (run_wpc _ _ _ _ _ ?_)
    simp only [hm,go_sem,↓reduceIte]
    refine call_data (hP ▸ hS) (by cases byB <;> rfl) rfl ?_
    generalize a.own byB = o'
    generalize a.other byB = o at f0 f1 hl hd
    simp only [Side.ro, Side.av, hm,go_sem,↓reduceIte]
    refine run_wpc _ _ _ _ _ ?_
    simp only [inB_dec, hm,go_sem,↓reduceIte]
    repeat' first
      | refine And.intro ?_ ?_
      | intro _
      | (refine c_l6In hP ?_; simp only [inB_dec, hm,go_sem,↓reduceIte])
    all_goals first
      | omega
      | (refine resA_a ?_
         try simp only [inB_dec, Bool.and_eq_true, Bool.or_eq_true, decide_eq_true_eq, Bool.not_eq_true', Bool.or_eq_false_iff, Bool.and_eq_false_iff, decide_eq_false_iff_not, Bool.and_true, Bool.and_false, Bool.or_false, Bool.false_or, Bool.not_true, Bool.not_false, Bool.true_and, Bool.false_and, bne_self_eq_false, Bool.false_bne, Bool.true_bne]
         repeat' split
         all_goals first
           | rfl
           | (exfalso; omega)
           | (exfalso; simp_all; done)
           | (exfalso; simp_all; omega)
           | (simp only [Int.max_def]; split <;> first | rfl | (exfalso; omega) | (congr 3; omega)))
  | some x =>
    have hx := sackGet_ok hg
    simp only [sackB, serialB, Bool.and_eq_true, decide_eq_true_eq] at hx
    have hto := gapsB_to (by decide) hx.2
    simp only [Option.getD_some, Option.isSome_some, Sack.ro, hm,go_sem,↓reduceIte]
    refine run_seq (run_wpc _ _ _ _ _ ?_)
    simp only [hm,go_sem,↓reduceIte]
    refine call_data (hP ▸ hS) (by cases byB <;> rfl) rfl ?_
    generalize a.own byB = o'
    generalize hoo : a.other byB = o at *
    have hr := l3_range o.first (-1)
    have hA := s_l3Add o.first (-1) ⟨f0, f1⟩
    have hD := s_l3Diff (l3 o.first (-1)) x.cum hr (by omega)
    have hE : -32768 ≤ l3d (l3 o.first (-1)) x.cum ∧ l3d (l3 o.first (-1)) x.cum ≤ 32768 := by
      have := l3_range x.cum (-(l3 o.first (-1)))
      unfold l3d; split <;> omega
    generalize l3d (l3 o.first (-1)) x.cum = e at *
    simp only [Side.ro, Side.av, hm,go_sem,↓reduceIte]
    refine run_seq (run_wpc _ _ _ _ _ ?_)
    simp only [inB_dec, hm,go_sem,↓reduceIte]
    refine c_l6In hP ?_
    simp only [inB_dec, hm,go_sem,↓reduceIte]
    refine ⟨fun hst => ?_, fun hst => ?_⟩
    · have hstp : ¬ (4 ≤ a.state ∧ a.state ≤ 5) := by first | exact hst | omega
      refine resA_a ?_
      rw [if_pos (by simp [inB_dec]; omega)]
    refine run_seq (run_wpc _ _ _ _ _ ?_)
    simp only [hm,go_sem,↓reduceIte]
    refine call_pure (hP ▸ hA) rfl rfl ?_
    simp only [hm,go_sem,↓reduceIte]
    refine call_pure (hP ▸ hD) rfl rfl ?_
    simp only [hm,go_sem,↓reduceIte]
    rw [if_neg (by omega)]
    have hst' : ¬ ¬ (4 ≤ a.state ∧ a.state ≤ 5) := by first | exact hst | omega
    clear hA hD hG hS hd hg
    refine run_seq (run_wpc _ _ _ _ _ ?_)
    simp only [hm,go_sem,↓reduceIte]
    refine run_join (fun t => t = ⟨[(1, .bo byB), (3, .ptr 0 0 0), (6, .ptr 2 0 0), (11, .ptr 5 0 0), (12, .i e), (13, .i (e + lastTo x.gaps))], [(5, .var [.i o.tag, .i o.streams, .i o.first, .r (.ro none (o.sent.map Data.row)), .i o.acked]), (2, .var [.i 0, .i 0, .i 0, .bo false, .i 0, .i 0, .i 0, .r .nil, .i 0, .i 0, .i 0, .i 0, .r .nil, .i 0]), (0, .var [.i a.fr, .i a.to, .i a.state, .bo a.byB, .i a.a.tag, .i a.a.streams, .i a.a.first, .r (.ro none (a.a.sent.map Data.row)), .i a.a.acked, .i a.b.tag, .i a.b.streams, .i a.b.first, .r (.ro none (a.b.sent.map Data.row)), .i a.b.acked])], 6, []⟩) (run_wpc _ _ _ _ _ ?_) ?_
    · rcases Nat.eq_zero_or_pos x.gaps.length with h0 | h0
      · have hgn : x.gaps = [] := List.length_eq_zero_iff.1 h0
        have hlt : lastTo x.gaps = 0 := by rw [hgn]; rfl
        rw [hlt, hgn]
        simp only [List.map_nil, List.length_nil, hm,go_sem,↓reduceIte]
        repeat' first | refine And.intro ?_ ?_ | intro _
        all_goals first
          | omega
          | (refine ⟨_, rfl, ?_⟩; rw [Int.add_zero]; (refine le_ev [] ?_; simp only [hm,go_sem,↓reduceIte]; first | done | rfl | exact ⟨rfl, rfl⟩))
      · have hil : x.gaps.length - 1 < x.gaps.length := by omega
        have hgt := getD_map (f := Gap.row) hil
        have hwl : IntKind.i64.wrap ((x.gaps.length : Int) - 1) = ((x.gaps.length - 1 : Nat) : Int) := by rw [wrap64 (by omega) (by omega)]; omega
        have hlt := lastTo_eq h0
        have hmem := hto _ (List.getElem_mem hil)
        generalize x.gaps[x.gaps.length - 1] = g at *
        rw [hlt]
        have hwe : IntKind.i64.wrap (e + g.to) = e + g.to := wrap64 (by omega) (by omega)
        simp only [hwl, hwe, hgt, Int.toNat_natCast, List.length_map, Gap.row, hm,go_sem,↓reduceIte]
        repeat' first | refine And.intro ?_ ?_ | intro _
        all_goals first
          | omega
          | (refine ⟨_, rfl, ?_⟩; (refine le_ev [] ?_; simp only [hm,go_sem,↓reduceIte]; first | done | rfl | exact ⟨rfl, rfl⟩))
    rintro t rfl
    generalize e + lastTo x.gaps = mo
    have hmx : (if e > o.acked then e else o.acked) = max o.acked e := by rw [Int.max_def]; split <;> split <;> omega
    refine run_wpc _ _ _ _ _ ?_
    cases byB
    all_goals
      simp only [Bool.not_true, Bool.not_false] at hW
      simp only [hmx, inB_dec, hm,go_sem,↓reduceIte]
      repeat' first
        | refine And.intro ?_ ?_
        | intro _
        | (refine c_l6In hP ?_; simp only [hmx, inB_dec, hm,go_sem,↓reduceIte])
        | (refine call_data (hP ▸ hW { o with acked := max o.acked e }) rfl rfl ?_; simp only [Assoc.ro, Assoc.av, hm,go_sem,↓reduceIte])
    all_goals first
      | omega
      | (refine resA_a ?_
         try simp only [inB_dec, Bool.and_eq_true, Bool.or_eq_true, decide_eq_true_eq, Bool.not_eq_true', Bool.or_eq_false_iff, Bool.and_eq_false_iff, decide_eq_false_iff_not, Bool.and_true, Bool.and_false, Bool.or_false, Bool.false_or, Bool.not_true, Bool.not_false, Bool.true_and, Bool.false_and, bne_self_eq_false, Bool.false_bne, Bool.true_bne]
         repeat' split
         all_goals first
           | rfl
           | (exfalso; omega)
           | (exfalso; simp_all; done)
           | (exfalso; simp_all; omega))
theorem s_l31Chunk (a : Assoc) (byB : Bool) (k : Chunk) (hs : k.body.length ≤ 1000000) (hw : AW a) : Spec Tryz.prog 99 0 [] [a.ro, .bo byB, k.av] (fun r _ _ _ => r = resA (stepChunk a byB k)) := by
  have h1 := s_l31Init a byB k (by omega)
  have h2 := s_l31Data a byB k (by omega) hw
  have h3 := s_l31Sack a byB k hs hw
  have h4 := s_l31End a byB k.kind
  have h5 := s_l31Cookie a byB k.kind
  refine mk99 rfl fun c hP hm => ?_
  unfold pc99
  unfold Chunk.av at h1 h2 h3 ⊢
  have hu : a.ro = .agg [.i a.fr, .i a.to, .i a.state, .bo a.byB, .i a.a.tag, .i a.a.streams, .i a.a.first, .r (.ro none (a.a.sent.map Data.row)), .i a.a.acked, .i a.b.tag, .i a.b.streams, .i a.b.first, .r (.ro none (a.b.sent.map Data.row)), .i a.b.acked] := rfl
  rw [hu] at h1 h2 h3 h4 h5 ⊢
  unfold stepChunk
  generalize stepInit a byB k = r1 at h1
  generalize stepData a byB k = r2 at h2
  generalize stepSack a byB k = r3 at h3
  generalize stepEnd a byB k.kind = r4 at h4
  generalize stepRest a byB k.kind = r5 at h5
  unfold resA Assoc.ro Assoc.av at h1 h2 h3 h4 h5
  simp only [hm,go_sem,↓reduceIte]
  repeat' first
    | refine And.intro ?_ ?_
    | intro _
    | (refine call_data (hP ▸ h1) rfl rfl ?_; simp only [hm,go_sem,↓reduceIte])
    | (refine call_data (hP ▸ h2) rfl rfl ?_; simp only [hm,go_sem,↓reduceIte])
    | (refine call_data (hP ▸ h3) rfl rfl ?_; simp only [hm,go_sem,↓reduceIte])
    | (refine call_data (hP ▸ h4 (by omega)) rfl rfl ?_; simp only [hm,go_sem,↓reduceIte])
    | (refine call_data (hP ▸ h5) rfl rfl ?_; simp only [hm,go_sem,↓reduceIte])
  all_goals first
    | omega
    | (refine resA_a ?_
       repeat' split
       all_goals first
         | rfl
         | (exfalso; omega))
theorem s_l31Tag (a : Assoc) (byB : Bool) (p : Packet) (hl : p.chunks.length ≤ 2000000) : Spec Tryz.prog 98 0 [] [a.ro, .bo byB, p.ro] (fun r _ _ _ => r = .i (tagOf a byB p)) := by
  have hS := s_l31Side a byB
  unfold tagOf
  refine mr98 rfl fun c hP hm => ?_
  unfold pc98
  unfold Assoc.ro Assoc.av at hS ⊢
  unfold Packet.ro
  refine run_seq (run_wpc _ _ _ _ _ ?_)
  simp only [hm,go_sem,↓reduceIte]
  refine run_seq (run_wpc _ _ _ _ _ ?_)
  simp only [hm,go_sem,↓reduceIte]
  refine run_exit 0 (fun t0 => t0 = ⟨[(1, .bo byB), (3, .ptr 0 0 0)], [(0, .var [.i a.fr, .i a.to, .i a.state, .bo a.byB, .i a.a.tag, .i a.a.streams, .i a.a.first, .r (.ro none (a.a.sent.map Data.row)), .i a.a.acked, .i a.b.tag, .i a.b.streams, .i a.b.first, .r (.ro none (a.b.sent.map Data.row)), .i a.b.acked])], 1, []⟩ ∧ p.chunks.any (fun c => decide (c.kind = 1)) = false) ?_ ?_
  · refine lp_wpc (α := Nat) (fun i => ⟨[(1, .bo byB), (3, .ptr 0 0 0), (5, .ptr 1 0 0), (7, .i i)], [(0, .var [.i a.fr, .i a.to, .i a.state, .bo a.byB, .i a.a.tag, .i a.a.streams, .i a.a.first, .r (.ro none (a.a.sent.map Data.row)), .i a.a.acked, .i a.b.tag, .i a.b.streams, .i a.b.first, .r (.ro none (a.b.sent.map Data.row)), .i a.b.acked]), (1, .var [.i p.fr, .i p.to, .i p.tag, .r (.ro none (p.chunks.map Chunk.row))])], 2, []⟩)
      (fun i => i ≤ p.chunks.length ∧ ∀ c ∈ p.chunks.take i, c.kind ≠ 1) (fun i => p.chunks.length - i) 0 ⟨Nat.zero_le _, fun c hc => by simp at hc⟩ (by (refine le_ev [] ?_; simp only [hm,go_sem,↓reduceIte]; first | done | rfl | exact ⟨rfl, rfl⟩)) ?_
    rintro i ⟨hi, hI⟩
    unfold pc98l0
    rcases Nat.lt_or_ge i p.chunks.length with hil | hil
    · have hw : IntKind.i64.wrap ((i : Int) + 1) = ((i + 1 : Nat) : Int) := by rw [wrap64 (by omega) (by omega)]; omega
      have hg := getD_map (f := Chunk.row) hil
      have htk := take_get hil
      have hmem := List.getElem_mem hil
      generalize p.chunks[i] = x at hg htk hmem
      simp only [hw, Int.toNat_natCast, hg, Chunk.row, hm,go_sem,↓reduceIte]
      repeat' first | refine And.intro ?_ ?_ | intro _
      all_goals first
        | omega
        | rfl
        | (rename_i hk; rw [if_pos (List.any_eq_true.2 ⟨x, hmem, by simp [hk]⟩)])
        | (rename_i hk
           refine ⟨i + 1, ⟨hil, fun y hy => ?_⟩, by omega, ?_⟩
           · rw [htk] at hy
             rcases List.mem_append.1 hy with hy | hy
             · exact hI y hy
             · simp only [List.mem_singleton] at hy; subst hy; exact hk
           · (refine le_ev [] ?_; simp only [hm,go_sem,↓reduceIte]; first | done | rfl | exact ⟨rfl, rfl⟩))
    · have : i = p.chunks.length := by omega
      subst this
      rw [List.take_length] at hI
      have hall : p.chunks.any (fun c => decide (c.kind = 1)) = false := by
        rw [Bool.eq_false_iff]
        intro h
        obtain ⟨x, hx, hk⟩ := List.any_eq_true.1 h
        exact hI x hx (by simpa using hk)
      simp only [hm,go_sem,↓reduceIte]
      repeat' first | refine And.intro ?_ ?_ | intro _
      all_goals first
        | omega
        | (refine ⟨_, ⟨rfl, hall⟩, ?_⟩; (refine le_ev [] ?_; simp only [hm,go_sem,↓reduceIte]; first | done | rfl | exact ⟨rfl, rfl⟩))
  rintro t0 ⟨rfl, hA⟩
  rw [hA]
  refine run_wpc _ _ _ _ _ ?_
  simp only [hm,go_sem,↓reduceIte]
  refine call_data (hP ▸ hS) (by cases byB <;> rfl) rfl ?_
  generalize a.own byB = o'
  generalize a.other byB = o
  simp only [Side.ro, Side.av, Bool.false_eq_true, if_false, hm,go_sem,↓reduceIte]
theorem s_l13Alone (k : Int) : Spec Tryz.prog 78 0 [] [.i k] (fun r _ _ _ => r = .bo (aloneK k)) := by
  refine mk78 rfl fun c hP hm => ?_
  unfold pc78
  simp only [hm,go_sem,↓reduceIte]
  repeat' first | refine And.intro ?_ ?_ | intro _
  all_goals (apply bo_inj; simp [aloneK, beq_dec, *])
theorem s_specPacketAlone (p : Packet) (hl : p.chunks.length ≤ 2000000) : Spec Tryz.prog 47 0 [] [p.ro] (fun r _ _ _ => r = .bo (aloneB p)) := by
  refine mr47 rfl fun c hP hm => ?_
  unfold pc47 Packet.ro
  refine run_seq (run_wpc _ _ _ _ _ ?_)
  simp only [hm,go_sem,↓reduceIte]
  refine run_seq (run_wpc _ _ _ _ _ ?_)
  simp only [hm,go_sem,↓reduceIte]
  refine run_exit 0 (fun t0 => t0 = ⟨[(1, .ptr 0 0 0)], [(0, .var [.i p.fr, .i p.to, .i p.tag, .r (.ro none (p.chunks.map Chunk.row))])], 1, []⟩ ∧ ∀ c ∈ p.chunks, aloneK c.kind = true → p.chunks.length ≤ 1) ?_ ?_
  · refine lp_wpc (α := Nat) (fun i => ⟨[(1, .ptr 0 0 0), (3, .i i)], [(0, .var [.i p.fr, .i p.to, .i p.tag, .r (.ro none (p.chunks.map Chunk.row))])], 1, []⟩)
      (fun i => i ≤ p.chunks.length ∧ ∀ c ∈ p.chunks.take i, aloneK c.kind = true → p.chunks.length ≤ 1) (fun i => p.chunks.length - i) 0 ⟨Nat.zero_le _, fun c hc => by simp at hc⟩ (by (refine le_ev [] ?_; simp only [hm,go_sem,↓reduceIte]; first | done | rfl | exact ⟨rfl, rfl⟩)) ?_
    rintro i ⟨hi, hI⟩
    unfold pc47l0
    rcases Nat.lt_or_ge i p.chunks.length with hil | hil
    · have hw : IntKind.i64.wrap ((i : Int) + 1) = ((i + 1 : Nat) : Int) := by rw [wrap64 (by omega) (by omega)]; omega
      have hg := getD_map (f := Chunk.row) hil
      have htk := take_get hil
      have hmem := List.getElem_mem hil
      generalize p.chunks[i] = x at hg htk hmem
      have hbad : aloneK x.kind = true → 1 < p.chunks.length → AV.r (RV.b false) = AV.bo (aloneB p) := fun h1 h2 => by
        apply bo_inj; symm; rw [Bool.eq_false_iff]; intro hh
        simp only [aloneB, Bool.and_eq_true, Bool.or_eq_true, decide_eq_true_eq, List.all_eq_true] at hh
        rcases hh.2 with h | h
        · omega
        · have := h x hmem; rw [h1] at this; cases this
      have hstep : (aloneK x.kind = true → p.chunks.length ≤ 1) → ∀ c ∈ p.chunks.take (i + 1), aloneK c.kind = true → p.chunks.length ≤ 1 := fun h c hc => by
        rw [htk] at hc
        rcases List.mem_append.1 hc with hc | hc
        · exact hI c hc
        · simp only [List.mem_singleton] at hc; subst hc; exact h
      simp only [hw, Int.toNat_natCast, hg, Chunk.row, hm,go_sem,↓reduceIte]
      repeat' first | refine And.intro ?_ ?_ | intro _ | (refine call_pure (hP ▸ s_l13Alone x.kind) rfl rfl ?_; simp only [hw, Int.toNat_natCast, hg, Chunk.row, hm,go_sem,↓reduceIte])
      all_goals first
        | omega
        | rfl
        | exact hbad (by assumption) (by omega)
        | (refine ⟨i + 1, ⟨hil, hstep fun h => by omega⟩, by omega, ?_⟩; (refine le_ev [] ?_; simp only [hm,go_sem,↓reduceIte]; first | done | rfl | exact ⟨rfl, rfl⟩))
        | (rename_i hk; refine ⟨i + 1, ⟨hil, hstep fun h => by rw [hk] at h; cases h⟩, by omega, ?_⟩; (refine le_ev [] ?_; simp only [hm,go_sem,↓reduceIte]; first | done | rfl | exact ⟨rfl, rfl⟩))
    · have : i = p.chunks.length := by omega
      subst this
      rw [List.take_length] at hI
      simp only [hm,go_sem,↓reduceIte]
      repeat' first | refine And.intro ?_ ?_ | intro _
      all_goals first
        | omega
        | (refine ⟨_, ⟨rfl, hI⟩, ?_⟩; (refine le_ev [] ?_; simp only [hm,go_sem,↓reduceIte]; first | done | rfl | exact ⟨rfl, rfl⟩))
  rintro t0 ⟨rfl, hG⟩
  have hal : aloneB p = packB p := by
    unfold aloneB
    cases hb : packB p
    · rfl
    · rw [Bool.true_and, Bool.or_eq_true, decide_eq_true_eq, List.all_eq_true]
      have hn : 1 ≤ p.chunks.length := by
        simp only [packB, Bool.and_eq_true, decide_eq_true_eq] at hb; omega
      by_cases h : p.chunks.length = 1
      · exact .inl h
      · right
        intro x hx
        cases hk : aloneK x.kind
        · rfl
        · have := hG x hx hk; omega
  have hpv := s_specPacketValid p hl
  unfold Packet.ro at hpv
  rw [hal]
  refine run_wpc _ _ _ _ _ ?_
  simp only [hm,go_sem,↓reduceIte]
  refine call_pure (hP ▸ hpv) rfl rfl ?_
  simp only [hm,go_sem,↓reduceIte]
theorem s_l31Side2 (s : Side) (hl : s.sent.length ≤ 1000000) : Spec Tryz.prog 93 0 [] [s.ro] (fun r _ _ _ => r = s.ro) := by
  refine mr93 rfl fun c hP hm => ?_
  unfold pc93 Side.ro Side.av
  refine run_seq (run_wpc _ _ _ _ _ ?_)
  simp only [hm,go_sem,↓reduceIte]
  refine run_seq (run_wpc _ _ _ _ _ ?_)
  simp only [hm,go_sem,↓reduceIte]
  refine ⟨⟨fun r hr => by obtain ⟨d, _, rfl⟩ := List.mem_map.1 hr; rfl, by omega⟩, ?_⟩
  refine run_frz 2 rfl (by first | (simp only [hm, List.length_map,go_sem,↓reduceIte]; done) | (simp only [hm, List.length_map,go_sem,↓reduceIte]; omega)) (by first | (simp only [hm, List.length_map,go_sem,↓reduceIte]; done) | (simp only [hm, List.length_map,go_sem,↓reduceIte]; omega)) ?_; simp only [hm, take_map_len, List.drop_zero,go_sem,↓reduceIte]
  refine run_wpc _ _ _ _ _ ?_
  simp only [hm,go_sem,↓reduceIte]
theorem s_l31Copy (a : Assoc) (ha : a.a.sent.length ≤ 1000000) (hb : a.b.sent.length ≤ 1000000) : Spec Tryz.prog 73 0 [] [a.ro] (fun r _ _ _ => r = a.ro) := by
  refine mk73 rfl fun c hP hm => ?_
  unfold pc73 Assoc.ro Assoc.av
  simp only [hm,go_sem,↓reduceIte]
  refine call_data (hP ▸ s_l31Side2 a.a ha) rfl rfl ?_
  simp only [Side.ro, Side.av, hm,go_sem,↓reduceIte]
  refine call_data (hP ▸ s_l31Side2 a.b hb) rfl rfl ?_
  simp only [Side.ro, Side.av, hm,go_sem,↓reduceIte]
def bRows (b : Nat → Bool) : List (List RV) := (List.range 12).map fun k => [RV.b (b k)]
theorem bRows_len (b : Nat → Bool) : (bRows b).length = 12 := by simp [bRows]
theorem bRows_get (b : Nat → Bool) {k : Nat} (h : k < 12) : (bRows b).getD k [] = [.b (b k)] := by
  simp [bRows, List.getD_eq_getElem?_getD, h]
theorem bRows_set {b b' : Nat → Bool} {n : Nat} (h : ∀ k, b' k = (b k || k == n)) : (bRows b).set n [.b true] = bRows b' := by
  refine List.ext_getElem (by simp [bRows]) fun k h1 h2 => ?_
  simp only [bRows, List.getElem_set, List.getElem_map, List.getElem_range, h]
  by_cases e : n = k
  · subst e; simp
  · have : ¬ k = n := fun e' => e e'.symm
    simp [e, this]
theorem brokenB_add (a : Assoc) (byB : Bool) (p : Packet) (rs : List Int) {r : Int} (hr : 0 ≤ r) (k : Nat) : brokenB a byB p (rs ++ [r]) k = (brokenB a byB p rs k || k == r.toNat) := by
  unfold brokenB
  have e : (rs ++ [r]).contains (k : Int) = (rs.contains (k : Int) || k == r.toNat) := by
    rw [Bool.eq_iff_iff]
    simp only [List.contains_iff_mem, List.mem_append, List.mem_singleton, Bool.or_eq_true, beq_iff_eq]
    constructor
    · rintro (h | h)
      · exact .inl h
      · right; omega
    · rintro (h | h)
      · exact .inl h
      · right; omega
  rw [e]
  cases (k == 1 && !aloneB p) <;> cases (k == 2 && decide (p.tag ≠ tagOf a byB p)) <;> simp
theorem stepInit_ok (a : Assoc) (byB : Bool) (c : Chunk) (h : AW a) : AW (stepInit a byB c).1 ∧ 0 ≤ (stepInit a byB c).2 ∧ (stepInit a byB c).2 ≤ 11 := by
  unfold stepInit
  simp only
  split
  · exact ⟨h, by simp, by simp⟩
  · cases hg : initGet c with
    | none => exact ⟨h, by simp, by simp⟩
    | some x =>
      simp only
      split
      · split
        · exact ⟨h, by simp, by simp⟩
        · exact ⟨h, by simp, by simp⟩
      · refine ⟨AW.put (a := { a with state := a.state + 1 }) h byB ?_, by simp, by simp⟩
        have := initGet_ok hg
        simp only [initB, serialB, Bool.and_eq_true, decide_eq_true_eq] at this
        exact ⟨by simp only; omega, by simp, by simp⟩
theorem stepData_ok (a : Assoc) (byB : Bool) (c : Chunk) (h : AW a) : AW (stepData a byB c).1 ∧ 0 ≤ (stepData a byB c).2 ∧ (stepData a byB c).2 ≤ 11 := by
  unfold stepData
  simp only
  split
  · exact ⟨h, by simp, by simp⟩
  · cases hg : dataGet c with
    | none => exact ⟨h, by simp, by simp⟩
    | some d =>
      simp only
      split
      · split
        · exact ⟨h, by simp, by simp⟩
        · exact ⟨h, by simp, by simp⟩
      split
      · exact ⟨h, by simp, by simp⟩
      split
      · exact ⟨h, by simp, by simp⟩
      split
      · exact ⟨h, by simp, by simp⟩
      split
      · exact ⟨h, by simp, by simp⟩
      split
      · exact ⟨h, by simp, by simp⟩
      · rename_i hlen
        obtain ⟨h1, h2, h3⟩ := h.own byB
        refine ⟨h.put byB ⟨h1, by simp only [List.length_append, List.length_cons, List.length_nil]; omega, fun x hx => ?_⟩, by simp, by simp⟩
        rcases List.mem_append.1 hx with hx | hx
        · exact h3 x hx
        · simp only [List.mem_singleton] at hx; subst hx; exact dataGet_ok hg
theorem stepSack_ok (a : Assoc) (byB : Bool) (c : Chunk) (h : AW a) : AW (stepSack a byB c).1 ∧ 0 ≤ (stepSack a byB c).2 ∧ (stepSack a byB c).2 ≤ 11 := by
  unfold stepSack
  simp only
  split
  · exact ⟨h, by simp, by simp⟩
  · cases hg : sackGet c with
    | none => exact ⟨h, by simp, by simp⟩
    | some x =>
      simp only
      split
      · exact ⟨h, by simp, by simp⟩
      · exact ⟨h.put (!byB) (h.other byB), by simp, by simp⟩
theorem stepEnd_ok (a : Assoc) (byB : Bool) (k : Int) (h : AW a) : AW (stepEnd a byB k).1 ∧ 0 ≤ (stepEnd a byB k).2 ∧ (stepEnd a byB k).2 ≤ 11 := by
  unfold stepEnd
  simp only
  repeat' split
  all_goals exact ⟨h, by simp, by simp⟩
theorem stepRest_ok (a : Assoc) (byB : Bool) (k : Int) (h : AW a) : AW (stepRest a byB k).1 ∧ 0 ≤ (stepRest a byB k).2 ∧ (stepRest a byB k).2 ≤ 11 := by
  unfold stepRest
  repeat' split
  all_goals exact ⟨h, by simp, by simp⟩
theorem stepChunk_ok (a : Assoc) (byB : Bool) (c : Chunk) (h : AW a) : AW (stepChunk a byB c).1 ∧ 0 ≤ (stepChunk a byB c).2 ∧ (stepChunk a byB c).2 ≤ 11 := by
  unfold stepChunk
  split
  · exact stepInit_ok a byB c h
  split
  · exact stepData_ok a byB c h
  split
  · exact stepSack_ok a byB c h
  split
  · exact stepEnd_ok a byB _ h
  · exact stepRest_ok a byB _ h
theorem stepChunks_append (byB : Bool) (c : Chunk) : ∀ (l : List Chunk) (a : Assoc) (rs : List Int), stepChunks byB (l ++ [c]) a rs = ((stepChunk (stepChunks byB l a rs).1 byB c).1, (stepChunks byB l a rs).2 ++ [(stepChunk (stepChunks byB l a rs).1 byB c).2])
  | [], a, rs => rfl
  | x :: l, a, rs => by simp only [List.cons_append, stepChunks]; exact stepChunks_append byB c l _ _
theorem stepChunks_ok (byB : Bool) : ∀ (l : List Chunk) (a : Assoc) (rs : List Int), AW a → AW (stepChunks byB l a rs).1
  | [], a, rs, h => h
  | c :: l, a, rs, h => by simp only [stepChunks]; exact stepChunks_ok byB l _ _ (stepChunk_ok a byB c h).1
abbrev Assoc.cellsA (a : Assoc) : List AV := [.i a.fr, .i a.to, .i a.state, .bo a.byB, .i a.a.tag, .i a.a.streams, .i a.a.first, .r (.ro none (a.a.sent.map Data.row)), .i a.a.acked, .i a.b.tag, .i a.b.streams, .i a.b.first, .r (.ro none (a.b.sent.map Data.row)), .i a.b.acked]
theorem s_l31Step (a : Assoc) (byB : Bool) (p : Packet) (hw : AW a) (hp : packB p = true) : Spec Tryz.prog 80 0 [] [a.ro, .bo byB, p.ro] (Plain fun r => r = .tup [(stepChunks byB p.chunks a []).1.ro, .r (.ro none (bRows (brokenB a byB p (stepChunks byB p.chunks a []).2)))]) := by
  have hpb := hp
  simp only [packB, Bool.and_eq_true, decide_eq_true_eq, List.all_eq_true, chunkB] at hpb
  have hcl : p.chunks.length ≤ 4 := by omega
  have hbody : ∀ x ∈ p.chunks, x.body.length ≤ 60 := fun x hx => (hpb.2 x hx).2
  have hal := s_specPacketAlone p (by omega)
  have htg := s_l31Tag a byB p (by omega)
  unfold Packet.ro at hal htg
  have hu : a.ro = .agg [.i a.fr, .i a.to, .i a.state, .bo a.byB, .i a.a.tag, .i a.a.streams, .i a.a.first, .r (.ro none (a.a.sent.map Data.row)), .i a.a.acked, .i a.b.tag, .i a.b.streams, .i a.b.first, .r (.ro none (a.b.sent.map Data.row)), .i a.b.acked] := rfl
  rw [hu] at htg
  refine Spec.plain ?_ rfl
  refine mr80 rfl fun c hP hm => ?_
  unfold pc80 Packet.ro
  rw [hu]
  refine run_seq (run_wpc _ _ _ _ _ ?_)
  simp only [hm,go_sem,↓reduceIte]
  refine run_seq (run_wpc _ _ _ _ _ ?_)
  simp only [hm,go_sem,↓reduceIte]
  refine ⟨by omega, ?_⟩
  refine run_seq (run_wpc _ _ _ _ _ ?_)
  simp only [hm,go_sem,↓reduceIte]
  refine call_pure (hP ▸ hal) rfl rfl ?_
  simp only [hm,go_sem,↓reduceIte]
  refine run_seq (run_wpc _ _ _ _ _ ?_)
  simp only [hm,go_sem,↓reduceIte]
  refine call_pure (hP ▸ htg) rfl rfl ?_
  simp only [hm,go_sem,↓reduceIte]
  have e : (p.tag != tagOf a byB p) = decide (p.tag ≠ tagOf a byB p) := by by_cases h : p.tag = tagOf a byB p <;> simp [h]
  have hr0 : [[.b false], [.b (!aloneB p)], [.b (p.tag != tagOf a byB p)], [.b false], [.b false], [.b false], [.b false], [.b false], [.b false], [.b false], [.b false], [.b false]] = bRows (brokenB a byB p []) := by
    rw [e]
    simp [bRows, brokenB, List.range, List.range.loop]
  simp only [hr0, hm,go_sem,↓reduceIte]
  refine run_seq (run_wpc _ _ _ _ _ ?_)
  simp only [hm,go_sem,↓reduceIte]
  refine run_seq (run_wpc _ _ _ _ _ ?_)
  simp only [hm,go_sem,↓reduceIte]
  refine run_exit 0 (fun t0 => t0 = ⟨[(6, .ptr 2 0 0), (8, .sl 3 0 12), (9, .ptr 4 0 0)], [(2, .var [.i 0, .i 0, .i 0, .bo false, .i 0, .i 0, .i 0, .r .nil, .i 0, .i 0, .i 0, .i 0, .r .nil, .i 0]), (3, .row 1 (bRows (brokenB a byB p (stepChunks byB p.chunks a []).2))), (4, .var (stepChunks byB p.chunks a []).1.cellsA)], 5, []⟩) ?_ ?_
  · refine lp_wpc (α := Nat) (fun i => ⟨[(1, .bo byB), (5, .ptr 1 0 0), (6, .ptr 2 0 0), (8, .sl 3 0 12), (9, .ptr 4 0 0), (10, .i i)], [(1, .var [.i p.fr, .i p.to, .i p.tag, .r (.ro none (p.chunks.map Chunk.row))]), (2, .var [.i 0, .i 0, .i 0, .bo false, .i 0, .i 0, .i 0, .r .nil, .i 0, .i 0, .i 0, .i 0, .r .nil, .i 0]), (3, .row 1 (bRows (brokenB a byB p (stepChunks byB (p.chunks.take i) a []).2))), (4, .var (stepChunks byB (p.chunks.take i) a []).1.cellsA)], 5, []⟩)
      (fun i => i ≤ p.chunks.length) (fun i => p.chunks.length - i) 0 (Nat.zero_le _) (by simp only [List.take_zero, stepChunks, Assoc.cellsA]; (refine le_ev [] ?_; simp only [hm,go_sem,↓reduceIte]; first | done | rfl | exact ⟨rfl, rfl⟩)) ?_
    intro i hi
    unfold pc80l0
    rcases Nat.lt_or_ge i p.chunks.length with hil | hil
    · have hw1 : IntKind.i64.wrap ((i : Int) + 1) = ((i + 1 : Nat) : Int) := by rw [wrap64 (by omega) (by omega)]; omega
      have hg := getD_map (f := Chunk.row) hil
      have htk := take_get hil
      have hbx := hbody _ (List.getElem_mem hil)
      have hok := stepChunks_ok byB (p.chunks.take i) a [] hw
      have hap := stepChunks_append byB p.chunks[i] (p.chunks.take i) a []
      rw [← htk] at hap
      generalize p.chunks[i] = x at hg hbx hap
      generalize (stepChunks byB (p.chunks.take i) a []).1 = o at hok hap
      generalize (stepChunks byB (p.chunks.take i) a []).2 = rs at hap
      have hch := s_l31Chunk o byB x (by omega) hok
      have hsr := (stepChunk_ok o byB x hok).2
      unfold resA at hch
      generalize stepChunk o byB x = y at hch hsr hap
      have hset : (bRows (brokenB a byB p rs)).set y.2.toNat [.b true] = bRows (brokenB a byB p (rs ++ [y.2])) := bRows_set fun k => brokenB_add a byB p rs hsr.1 k
      have hlr := bRows_len (brokenB a byB p rs)
      have hu2 : o.ro = .agg o.cellsA := rfl
      have hu3 : y.1.ro = .agg y.1.cellsA := rfl
      rw [hu2, hu3] at hch
      unfold Assoc.cellsA at hch ⊢
      unfold Chunk.av at hch
      simp only [hw1, Int.toNat_natCast, hg, Chunk.row, hm,go_sem,↓reduceIte]
      repeat' first
        | refine And.intro ?_ ?_
        | intro _
        | (refine call_data (hP ▸ hch) rfl rfl ?_; simp only [hw1, hset, Int.toNat_natCast, hg, Chunk.row, hm,go_sem,↓reduceIte])
      all_goals first
        | omega
        | (refine ⟨i + 1, hil, by omega, ?_⟩; rw [hap]; simp only [Assoc.cellsA]; (refine le_ev [] ?_; simp only [hm,go_sem,↓reduceIte]; first | done | rfl | exact ⟨rfl, rfl⟩))
    · have : i = p.chunks.length := by omega
      subst this
      rw [List.take_length]
      simp only [hm,go_sem,↓reduceIte]
      repeat' first | refine And.intro ?_ ?_ | intro _
      all_goals first
        | omega
        | (refine ⟨_, rfl, ?_⟩; (refine le_ev [] ?_; simp only [hm,go_sem,↓reduceIte]; first | done | rfl | exact ⟨rfl, rfl⟩))
  rintro t0 rfl
  rw [if_pos rfl]
  have hu3 : (stepChunks byB p.chunks a []).1.ro = .agg (stepChunks byB p.chunks a []).1.cellsA := rfl
  rw [hu3]
  generalize (stepChunks byB p.chunks a []).1 = o
  have hlr := bRows_len (brokenB a byB p (stepChunks byB p.chunks a []).2)
  generalize bRows (brokenB a byB p (stepChunks byB p.chunks a []).2) = R at *
  have h12 : (12 : Nat) = R.length := hlr.symm
  unfold Assoc.cellsA
  rw [h12]
  refine run_frz 3 rfl (by first | (simp only [hm, List.length_map,go_sem,↓reduceIte]; done) | (simp only [hm, List.length_map,go_sem,↓reduceIte]; omega)) (by first | (simp only [hm, List.length_map,go_sem,↓reduceIte]; done) | (simp only [hm, List.length_map,go_sem,↓reduceIte]; omega)) ?_; simp only [hm, take_map_len, List.drop_zero,go_sem,↓reduceIte]
  refine run_wpc _ _ _ _ _ ?_
  simp only [hm,go_sem,↓reduceIte]
  rw [List.take_length]
end Go.Cap
