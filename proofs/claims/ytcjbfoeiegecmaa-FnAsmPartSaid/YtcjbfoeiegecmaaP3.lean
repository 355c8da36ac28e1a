import Derived.Test.YtcjbfoeiegecmaaP2
import Derived.Test.YtcjbfoeiegecmaaR3
import Derived.Test.YtcjbfoeiegecmaaEngC
/- Contracts: the laws' helpers on parts. -/
namespace Go.Cap
open Go Go.Proofs
set_option maxRecDepth 100000
set_option linter.unusedSimpArgs false
set_option linter.unusedVariables false
attribute [local irreducible] Call Run Spec Le

theorem byte_of (r : List RV) (h : RowOk [.i .u8] r) : ∃ b : UInt8, r = byteRow b ∧ True := by
  obtain ⟨x0, r, rfl, h0, h⟩ := rowOk_cons h
  obtain rfl := rowOk_nil h
  obtain ⟨n, rfl, hn⟩ := okc_i h0
  have h8 := wf_u8 hn
  refine ⟨UInt8.ofNat n.toNat, ?_, trivial⟩
  have : ((UInt8.ofNat n.toNat).toNat : Int) = n := by
    rw [UInt8.toNat_ofNat']; omega
  simp only [byteRow, this]
theorem bytes_of {L : List (List RV)} (h : Okc (.sl [.i .u8]) (.ro none L)) : ∃ code : List UInt8, L = code.map byteRow ∧ code.length ≤ maxLen := by
  obtain ⟨L', e, hL, hrows⟩ := okc_sl h
  injection e with _ e
  subst e
  obtain ⟨l, rfl, _⟩ := rows_of byte_of hrows
  exact ⟨l, rfl, by simpa using hL⟩

end Go.Cap
