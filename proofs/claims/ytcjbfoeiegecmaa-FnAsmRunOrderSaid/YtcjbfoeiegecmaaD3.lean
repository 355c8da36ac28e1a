import Derived.Test.YtcjbfoeiegecmaaD2
import Derived.Test.YtcjbfoeiegecmaaG5
import Derived.Test.YtcjbfoeiegecmaaG6
import Derived.Test.YtcjbfoeiegecmaaEngC
/- Contracts: an assembly is drawn. -/
namespace Go.Cap
open Go Go.Proofs
set_option maxRecDepth 100000
set_option linter.unusedSimpArgs false
set_option linter.unusedVariables false
attribute [local irreducible] Call Run Spec Le

theorem c_drawT2 {c : Cx} {f : Nat} {code : List UInt8} {p k : Int} {s : St} {K : AV → St → Prop} {b : Nat} (hs : Spec c.P f 1 [(0, rdB code p)] [.ptr 0 0 0] (NamedNew (DrawTV code p k))) (hb : hget s.hp b = some (rdB code p))
    (h : ∀ (t : Talk) p', p ≤ p' → p' ≤ p + k → talkB t = true → K (t.av (.sl s.nx 0 t.says.length)) ⟨s.sl, (b, rdB code p') :: (s.nx, .row 4 (t.says.map Say.row)) :: hdel s.hp b, s.nx + 1, s.gs⟩) : Call c f [.ptr b 0 0] s K :=
  call_namedNew b hs hb rfl rfl (fun r B sz L ⟨t, p', h1, h2, _⟩ => by subst h2; rfl) fun r B sz L ⟨t, p', h1, h2, h3, h4, h5, h6, h7⟩ => by subst h1; subst h2; subst h3; subst h4; exact h t p' h5 h6 h7
end Go.Cap
