import Derived.Test.YtcjbfoeiegecmaaPc
/- Contracts of the functions that TalkValid reaches. -/
namespace Go.Cap
open Go Go.Proofs
set_option maxRecDepth 100000
set_option linter.unusedSimpArgs false
set_option linter.unusedVariables false
attribute [local irreducible] Call Run Spec Le

def serialB (x : Int) : Bool := decide (0 ≤ x ∧ x < 65536)
theorem bo_inj {a b : Bool} (h : a = b) : AV.r (.b a) = AV.bo b := by rw [h]
def inB (n lo hi : Int) : Bool := decide (lo ≤ n ∧ n ≤ hi)
structure Say where
  byB : Bool
  stream : Int
  loose : Bool
  text : List UInt8
def Say.row (s : Say) : List RV := [.b s.byB, .n .i64 s.stream, .b s.loose, .s s.text]
def Say.av (s : Say) : AV := .agg [.bo s.byB, .i s.stream, .bo s.loose, .st s.text]
structure Init where
  tag : Int
  window : Int
  streams : Int
  tsn : Int
def Init.av (x : Init) : AV := .agg [.i x.tag, .i x.window, .i x.streams, .i x.tsn]
def initB (x : Init) : Bool := decide (1 ≤ x.tag ∧ x.tag ≤ 4294967295 ∧ 1 ≤ x.streams ∧ x.streams ≤ 4) && serialB x.window && serialB x.tsn
structure Talk where
  fr : Int
  to : Int
  a : Init
  b : Init
  size : Int
  says : List Say
def Talk.av (t : Talk) (x : AV) : AV := .agg [.i t.fr, .i t.to, .i t.a.tag, .i t.a.window, .i t.a.streams, .i t.a.tsn, .i t.b.tag, .i t.b.window, .i t.b.streams, .i t.b.tsn, .i t.size, x]
abbrev Talk.ro (t : Talk) : AV := t.av (.r (.ro none (t.says.map Say.row)))

theorem s_serialOk (x : Int) : Spec Try.prog 34 0 [] [.i x] (fun r _ _ _ => r = .bo (serialB x)) := by
  refine mk34 rfl fun c hP hm => ?_
  unfold pc34
  simp only [go_sem, ↓reduceIte]
  repeat' first | refine And.intro ?_ ?_ | intro _
  all_goals (simp [serialB]; try omega)
theorem c_serialOk {c : Cx} (hP : c.P = Try.prog) {x : Int} {s : St} {K : AV → St → Prop} (h : K (.bo (serialB x)) s) : Call c 34 [.i x] s K :=
  call_pure (hP ▸ s_serialOk x) rfl rfl h
theorem s_l6In (x lo hi : Int) : Spec Try.prog 40 0 [] [.i x, .i lo, .i hi] (fun r _ _ _ => r = .bo (inB x lo hi)) := by
  refine mk40 rfl fun c hP hm => ?_
  unfold pc40
  simp only [go_sem, ↓reduceIte]
  repeat' first | refine And.intro ?_ ?_ | intro _
  all_goals (simp [inB]; try omega)
theorem c_l6In {c : Cx} (hP : c.P = Try.prog) {x lo hi : Int} {s : St} {K : AV → St → Prop} (h : K (.bo (inB x lo hi)) s) : Call c 40 [.i x, .i lo, .i hi] s K :=
  call_pure (hP ▸ s_l6In x lo hi) rfl rfl h
theorem s_l3Ok (x : Int) : Spec Try.prog 37 0 [] [.i x] (fun r _ _ _ => r = .bo (serialB x)) := by
  refine mk37 rfl fun c hP hm => ?_
  unfold pc37
  simp only [go_sem, ↓reduceIte]
  refine c_l6In hP ?_
  simp only [go_sem, ↓reduceIte]
  rw [show serialB x = inB x 0 65535 by simp only [serialB, inB, decide_eq_decide]; omega]
theorem c_l3Ok {c : Cx} (hP : c.P = Try.prog) {x : Int} {s : St} {K : AV → St → Prop} (h : K (.bo (serialB x)) s) : Call c 37 [.i x] s K :=
  call_pure (hP ▸ s_l3Ok x) rfl rfl h
theorem s_l12Init (x : Init) : Spec Try.prog 60 0 [] [x.av] (fun r _ _ _ => r = .bo (initB x)) := by
  obtain ⟨a, b, d, e⟩ := x
  refine mk60 rfl fun c hP hm => ?_
  unfold pc60 Init.av
  simp only [go_sem, ↓reduceIte]
  repeat' first | refine And.intro ?_ ?_ | intro _ | (refine c_l6In hP ?_; simp only [go_sem, ↓reduceIte]) | (refine c_l3Ok hP ?_; simp only [go_sem, ↓reduceIte])
  all_goals (simp [initB, inB, serialB] at *; try omega)
end Go.Cap
