import Derived.Test.YtcjbfoeiegecmaaV1
/- Contracts: where a part lies; a valid assembly. -/
namespace Go.Cap
open Go Go.Proofs
set_option maxRecDepth 100000
set_option linter.unusedSimpArgs false
set_option linter.unusedVariables false
attribute [local irreducible] Call Run Spec Le

/-- The index of the first part with a number. -/
def atIx : List Data → Int → Option Nat
  | [], _ => none
  | d :: l, x => if d.tsn = x then some 0 else (atIx l x).map (· + 1)
def ixI : Option Nat → Int
  | some i => i
  | none => -1
theorem atIx_spec : ∀ (l : List Data) (x : Int), (∀ i, atIx l x = some i ↔ ∃ h : i < l.length, l[i].tsn = x ∧ ∀ j (hj : j < i), l[j].tsn ≠ x)
  | [], x, i => by simp [atIx]
  | d :: l, x, i => by
    simp only [atIx]
    by_cases hd : d.tsn = x
    · rw [if_pos hd]
      constructor
      · intro h; cases h; exact ⟨by simp, hd, fun j hj => by omega⟩
      · rintro ⟨h, h1, h2⟩
        cases i with
        | zero => rfl
        | succ i => exact absurd hd (h2 0 (by omega))
    · rw [if_neg hd]
      cases i with
      | zero =>
        constructor
        · intro h; cases ha : atIx l x <;> simp [ha] at h
        · rintro ⟨h, h1, _⟩; exact absurd h1 hd
      | succ i =>
        have ih := atIx_spec l x i
        constructor
        · intro h
          cases ha : atIx l x with
          | none => simp [ha] at h
          | some k =>
            simp only [ha, Option.map_some, Option.some.injEq, Nat.add_right_cancel_iff] at h
            subst h
            obtain ⟨h0, h1, h2⟩ := ih.1 ha
            refine ⟨by simpa using h0, by simpa using h1, fun j hj => ?_⟩
            cases j with
            | zero => simpa using hd
            | succ j => simpa using h2 j (by omega)
        · rintro ⟨h, h1, h2⟩
          have : atIx l x = some i := ih.2 ⟨by simpa using h, by simpa using h1, fun j hj => by simpa using h2 (j + 1) (by omega)⟩
          simp [this]
theorem atIx_none : ∀ (l : List Data) (x : Int), atIx l x = none ↔ ∀ d ∈ l, d.tsn ≠ x
  | [], x => by simp [atIx]
  | d :: l, x => by
    simp only [atIx]
    by_cases hd : d.tsn = x
    · rw [if_pos hd]; simp [hd]
    · rw [if_neg hd]
      have ih := atIx_none l x
      cases ha : atIx l x with
      | none => simp [hd, ih.1 ha]; exact ih.1 ha
      | some k =>
        simp only [Option.map_some, reduceCtorEq, false_iff]
        intro h
        have := ih.2 fun y hy => h y (List.mem_cons_of_mem _ hy)
        rw [ha] at this; cases this
theorem atIx_take {l : List Data} {x : Int} {i : Nat} (h : i < l.length) (hn : atIx (l.take i) x = none) : (l[i].tsn = x → atIx l x = some i) ∧ (l[i].tsn ≠ x → atIx (l.take (i + 1)) x = none) := by
  have h0 := (atIx_none _ _).1 hn
  refine ⟨fun he => (atIx_spec l x i).2 ⟨h, he, fun j hj => ?_⟩, fun he => (atIx_none _ _).2 fun d hd => ?_⟩
  · refine h0 _ ?_
    rw [List.mem_take_iff_getElem]
    exact ⟨j, by omega, rfl⟩
  · rw [take_get h] at hd
    rcases List.mem_append.1 hd with hd | hd
    · exact h0 d hd
    · simp only [List.mem_singleton] at hd; subst hd; exact he
theorem s_partAt (l : List Data) (x : Int) (hl : l.length ≤ 2000000) : Spec Try.prog 36 0 [] [.r (.ro none (l.map Data.row)), .i x] (fun r _ _ _ => r = .i (ixI (atIx l x))) := by
  refine mk36 rfl fun c hP hm => ?_
  unfold pc36
  simp only [go_sem, ↓reduceIte]
  intro _
  refine lp_wpc (α := Nat) (fun i => ⟨[(1, .i x), (7, .r (.ro none (l.map Data.row))), (8, .i l.length), (9, .i i)], [], 0, []⟩) (fun i => i ≤ l.length ∧ atIx (l.take i) x = none) (fun i => l.length - i) 0 ⟨Nat.zero_le _, rfl⟩ (le_ev [] (by simp only [hm, go_sem, ↓reduceIte])) ?_
  rintro i ⟨hi, hI⟩
  unfold pc36l0
  rcases Nat.lt_or_ge i l.length with hil | hil
  · obtain ⟨k1, k2⟩ := atIx_take hil hI
    simp only [Int.toNat_natCast, getD_map hil, Data.row, hm, go_sem, ↓reduceIte]
    rw [wrap64 (x := (i : Int) + 1) (by omega) (by omega)]
    repeat' first | refine And.intro ?_ ?_ | intro _
    all_goals first
      | omega
      | (rw [k1 (by assumption)]; rfl)
      | exact ⟨i + 1, ⟨hil, k2 (by assumption)⟩, by omega, le_ev [] (by simp only [hm, go_sem, ↓reduceIte]; first | rfl | exact ⟨rfl, rfl⟩)⟩
  · have : i = l.length := by omega
    subst this
    rw [List.take_length] at hI
    simp only [go_sem, ↓reduceIte]
    rw [hI]; rfl
end Go.Cap
