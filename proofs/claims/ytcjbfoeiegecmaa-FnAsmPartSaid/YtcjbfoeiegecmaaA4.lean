import Derived.Test.YtcjbfoeiegecmaaA3
/- Talks that came in. -/
namespace Go.Cap
open Go Go.Proofs
set_option maxRecDepth 100000
set_option linter.unusedSimpArgs false
set_option linter.unusedVariables false
attribute [local irreducible] Call Run Spec Le

theorem vw_talk {hp : List (Nat × Blk)} {b : Nat} {t : Talk} {n : Nat} (h : hget hp b = some (.row 4 (t.says.map Say.row))) (hn : n = t.says.length) : Vw hp (t.av (.sl b 0 n)) t.ro :=
  vw_agg (.cons (.r _) (.cons (.r _) (.cons (.r _) (.cons (.r _) (.cons (.r _) (.cons (.r _) (.cons (.r _) (.cons (.r _) (.cons (.r _) (.cons (.r _) (.cons (.r _) (.cons (Vw.full h (by simpa using hn)) .nil))))))))))))

end Go.Cap
