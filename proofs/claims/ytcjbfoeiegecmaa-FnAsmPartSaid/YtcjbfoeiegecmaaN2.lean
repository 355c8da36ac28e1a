import Derived.Test.YtcjbfoeiegecmaaN1
/- Contracts: a valid assembly (the program's). -/
namespace Go.Cap
open Go Go.Proofs
set_option maxRecDepth 100000
set_option linter.unusedSimpArgs false
set_option linter.unusedVariables false
attribute [local irreducible] Call Run Spec Le

structure Asm where
  next : List Int
  parts : List Data
def intRow (n : Int) : List RV := [.n .i64 n]
def Asm.ro (a : Asm) : AV := .agg [.r (.ro none (a.next.map intRow)), .r (.ro none (a.parts.map Data.row))]
def partOk (n : Nat) (l : List Data) (d : Data) : Bool := dataB d && decide (d.stream < n) && (atIx l d.tsn).isNone
def partsLoop (n : Nat) (parts : List Data) : Nat → List Data → Bool
  | _, [] => true
  | i, d :: l => partOk n (parts.take i) d && partsLoop n parts (i + 1) l
def asmB (a : Asm) : Bool := decide (1 ≤ a.next.length ∧ a.next.length ≤ 4) && decide (a.parts.length ≤ 12) && a.next.all serialB && partsLoop a.next.length a.parts 0 a.parts
theorem partsLoop_drop {n : Nat} {p l : List Data} {i : Nat} (h : i < l.length) : partsLoop n p i (l.drop i) = (partOk n (p.take i) l[i] && partsLoop n p (i + 1) (l.drop (i + 1))) := by
  rw [List.drop_eq_getElem_cons h]; rfl
theorem all_drop {l : List Int} {i : Nat} (h : i < l.length) : (l.drop i).all serialB = (serialB l[i] && (l.drop (i + 1)).all serialB) := by
  rw [List.drop_eq_getElem_cons h]; rfl
theorem loop_implAsmValid0 {c : Cx} (hP : c.P = Try.prog) (hm : c.m = 0) (a : Asm) (hl : a.next.length ≤ 4) {s0 : St} {n r : St → Prop} {x : Nat → St → Prop}
    (hs : Le c s0 ⟨[(1, .ptr 0 0 0), (24, .r (.ro none (a.next.map intRow))), (25, .i a.next.length), (26, .i 0)], [(0, .var [.r (.ro none (a.next.map intRow)), .r (.ro none (a.parts.map Data.row))])], 1, []⟩)
    (hr : a.next.all serialB = false → ∀ hp nx gs, r ⟨[(2, .r (.b false))], hp, nx, gs⟩)
    (hx0 : a.next.all serialB = true → x 0 ⟨[(1, .ptr 0 0 0)], [(0, .var [.r (.ro none (a.next.map intRow)), .r (.ro none (a.parts.map Data.row))])], 1, []⟩) :
    Run c (.lp pc16l0) s0 n x r := by
  refine run_exit 0 (fun t0 => t0 = ⟨[(1, .ptr 0 0 0)], [(0, .var [.r (.ro none (a.next.map intRow)), .r (.ro none (a.parts.map Data.row))])], 1, []⟩ ∧ a.next.all serialB = true) ?_ (fun t0 h => by rw [h.1]; exact hx0 h.2)
  refine lp_wpc (α := Nat) (fun i => ⟨[(1, .ptr 0 0 0), (24, .r (.ro none (a.next.map intRow))), (25, .i a.next.length), (26, .i i)], [(0, .var [.r (.ro none (a.next.map intRow)), .r (.ro none (a.parts.map Data.row))])], 1, []⟩)
    (fun i => i ≤ a.next.length ∧ (a.next.drop i).all serialB = a.next.all serialB) (fun i => a.next.length - i) 0 ⟨Nat.zero_le _, rfl⟩ hs ?_
  rintro i ⟨hi, hI⟩
  unfold pc16l0
  rcases Nat.lt_or_ge i a.next.length with hil | hil
  · rw [all_drop hil] at hI
    simp only [Int.toNat_natCast, getD_map hil, intRow, hm, go_sem, ↓reduceIte]
    generalize a.next[i] = y at hI
    repeat' first | refine And.intro ?_ ?_ | intro _ | (refine c_serialOk hP ?_; simp only [Int.toNat_natCast, hm, go_sem, ↓reduceIte])
    all_goals first
      | omega
      | (refine hr ?_ _ _ _; rw [← hI]; simp [*]; done)
      | (refine ⟨i + 1, ⟨hil, ?_⟩, by omega, ?_⟩
         · rw [← hI]; simp [*]
         · rw [wrap64 (by omega) (by omega)]
           exact le_ev [] (by simp only [hm, go_sem, ↓reduceIte]; first | rfl | exact ⟨rfl, rfl⟩))
  · have : i = a.next.length := by omega
    subst this
    rw [List.drop_eq_nil_of_le (Nat.le_refl _)] at hI
    simp only [go_sem, ↓reduceIte]
    exact ⟨_, ⟨rfl, hI.symm⟩, le_ev [] (by simp only [hm, go_sem, ↓reduceIte])⟩
theorem loop_implAsmValid1 {c : Cx} (hP : c.P = Try.prog) (hm : c.m = 0) (a : Asm) (hn : a.next.length ≤ 4) (hl : a.parts.length ≤ 12) (hx : ∀ d ∈ a.parts, d.text.length ≤ 9223372036854775807) {s0 : St} {n r : St → Prop} {x : Nat → St → Prop}
    (hs : Le c s0 ⟨[(1, .ptr 0 0 0), (35, .r (.ro none (a.parts.map Data.row))), (36, .i a.parts.length), (37, .i 0)], [(0, .var [.r (.ro none (a.next.map intRow)), .r (.ro none (a.parts.map Data.row))])], 1, []⟩)
    (hr : partsLoop a.next.length a.parts 0 a.parts = false → ∀ hp nx gs, r ⟨[(2, .r (.b false))], hp, nx, gs⟩)
    (hx0 : partsLoop a.next.length a.parts 0 a.parts = true → x 2 ⟨[], [], 1, []⟩) :
    Run c (.lp pc16l1) s0 n x r := by
  refine run_exit 2 (fun t0 => t0 = ⟨[], [], 1, []⟩ ∧ partsLoop a.next.length a.parts 0 a.parts = true) ?_ (fun t0 h => by rw [h.1]; exact hx0 h.2)
  refine lp_wpc (α := Nat) (fun i => ⟨[(1, .ptr 0 0 0), (35, .r (.ro none (a.parts.map Data.row))), (36, .i a.parts.length), (37, .i i)], [(0, .var [.r (.ro none (a.next.map intRow)), .r (.ro none (a.parts.map Data.row))])], 1, []⟩)
    (fun i => i ≤ a.parts.length ∧ partsLoop a.next.length a.parts i (a.parts.drop i) = partsLoop a.next.length a.parts 0 a.parts) (fun i => a.parts.length - i) 0 ⟨Nat.zero_le _, rfl⟩ hs ?_
  rintro i ⟨hi, hI⟩
  unfold pc16l1
  rcases Nat.lt_or_ge i a.parts.length with hil | hil
  · rw [partsLoop_drop hil] at hI
    have hd := hx _ (List.getElem_mem hil)
    simp only [Int.toNat_natCast, getD_map hil, Data.row, hm, go_sem, ↓reduceIte]
    generalize a.parts[i] = d at hI hd
    repeat' first | refine And.intro ?_ ?_ | intro _ | (refine call_pure (hP ▸ s_dataOk d hd) rfl rfl ?_; simp only [Int.toNat_natCast, ← List.map_take, hm, go_sem, ↓reduceIte]) | (refine call_pure (hP ▸ s_partAt (a.parts.take i) d.tsn (by rw [List.length_take]; omega)) rfl rfl ?_; simp only [Int.toNat_natCast, hm, go_sem, ↓reduceIte])
    all_goals first
      | omega
      | (rename_i h; obtain ⟨_, _, rfl⟩ := List.mem_map.1 h; rfl)
      | (refine hr ?_ _ _ _; rw [← hI]; simp [partOk, *]; done)
      | (rename_i h; have h' := Int.not_lt.2 h; refine hr ?_ _ _ _; rw [← hI]; simp [partOk, h']; done)
      | (rename_i h; refine hr ?_ _ _ _; rw [← hI]; cases ha : atIx (a.parts.take i) d.tsn <;> simp [partOk, ha, ixI] at h ⊢; done)
      | (rename_i h; refine ⟨i + 1, ⟨hil, ?_⟩, by omega, ?_⟩
         · rw [← hI]; cases ha : atIx (a.parts.take i) d.tsn <;> simp [partOk, ha, ixI, *] at h ⊢ <;> omega
         · rw [wrap64 (by omega) (by omega)]
           exact le_ev [] (by simp only [hm, go_sem, ↓reduceIte]; first | rfl | exact ⟨rfl, rfl⟩))
  · have : i = a.parts.length := by omega
    subst this
    rw [List.drop_eq_nil_of_le (Nat.le_refl _)] at hI
    simp only [go_sem, ↓reduceIte]
    exact ⟨_, ⟨rfl, hI.symm⟩, le_ev [] (by simp only [hm, go_sem, ↓reduceIte])⟩
theorem s_implAsmValid (a : Asm) (hn : a.next.length ≤ 2000000) (hl : a.parts.length ≤ 2000000) (hx : ∀ d ∈ a.parts, d.text.length ≤ 9223372036854775807) : Spec Try.prog 16 0 [] [a.ro] (fun r _ _ _ => r = .bo (asmB a)) := by
  refine mk16 rfl fun c hP hm => ?_
  unfold pc16 Asm.ro
  simp only [go_sem, ↓reduceIte]
  repeat' first | refine And.intro ?_ ?_ | intro _
  all_goals first
    | (apply bo_inj; symm; simp only [asmB, Bool.and_eq_false_iff, decide_eq_false_iff_not]; omega)
    | (refine loop_implAsmValid0 hP hm a (by omega) (le_ev [] (by simp only [hm, go_sem, ↓reduceIte])) ?_ ?_
       · intro hf hp nx gs
         simp only [go_sem, ↓reduceIte]
         apply bo_inj; simp [asmB, hf]
       · intro hf
         simp only [go_sem, ↓reduceIte]
         intro _
         refine loop_implAsmValid1 hP hm a (by omega) (by omega) hx (le_ev [] (by simp only [hm, go_sem, ↓reduceIte])) ?_ ?_
         · intro hg hp nx gs
           simp only [go_sem, ↓reduceIte]
           apply bo_inj; simp [asmB, hg]
         · intro hg
           simp only [go_sem, ↓reduceIte]
           apply bo_inj; symm; simp only [asmB, hf, hg, Bool.and_true, Bool.and_eq_true, decide_eq_true_eq]; omega)
end Go.Cap
