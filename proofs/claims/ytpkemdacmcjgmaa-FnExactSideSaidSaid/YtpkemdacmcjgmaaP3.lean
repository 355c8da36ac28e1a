import Derived.Test.YtpkemdacmcjgmaaP2
import Derived.Test.YtpkemdacmcjgmaaR3
import Derived.Test.YtpkemdacmcjgmaaEngC
/- Contracts: the laws' helpers on parts. -/
namespace Go.Cap
open Go Go.Proofs
set_option maxRecDepth 100000
set_option linter.unusedSimpArgs false
set_option linter.unusedVariables false
attribute [local irreducible] Call Run Spec Le

theorem mid_get {α : Type} {A B : List α} {d x : α} {i : Nat} (h : A.length = i) : (A ++ x :: B).getD i d = x := by
  rw [List.getD_eq_getElem?_getD, List.getElem?_append_right (by omega), h, Nat.sub_self]; rfl
theorem mid_set {α : Type} {A B : List α} {x y : α} {i : Nat} (h : A.length = i) : (A ++ x :: B).set i y = A ++ y :: B := by
  rw [List.set_append_right _ _ (by omega), h, Nat.sub_self]; rfl
theorem mid_len {α : Type} (A B : List α) (x : α) : (A ++ x :: B).length = A.length + (B.length + 1) := by simp
theorem mid_drop {α : Type} {f : α → List RV} {l : List α} {i : Nat} (h : i < l.length) : (l.drop i).map f = f l[i] :: (l.drop (i + 1)).map f := by rw [List.drop_eq_getElem_cons h]; rfl
end Go.Cap
