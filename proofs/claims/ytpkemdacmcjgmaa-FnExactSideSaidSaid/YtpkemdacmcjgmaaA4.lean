import Derived.Test.YtpkemdacmcjgmaaA3
/- Talks that came in. -/
namespace Go.Cap
open Go Go.Proofs
set_option maxRecDepth 100000
set_option linter.unusedSimpArgs false
set_option linter.unusedVariables false
attribute [local irreducible] Call Run Spec Le

abbrev I64 : CT := .i .i64
abbrev sayRow : List CT := [.b, I64, .b, .s]
abbrev talkRow : List CT := [I64, I64, I64, I64, I64, I64, I64, I64, I64, I64, I64, .sl sayRow]
theorem say_of (r : List RV) (h : RowOk sayRow r) : ∃ s : Say, r = s.row ∧ s.text.length ≤ maxLen := by
  obtain ⟨x0, r, rfl, h0, h⟩ := rowOk_cons h
  obtain ⟨x1, r, rfl, h1, h⟩ := rowOk_cons h
  obtain ⟨x2, r, rfl, h2, h⟩ := rowOk_cons h
  obtain ⟨x3, r, rfl, h3, h⟩ := rowOk_cons h
  obtain rfl := rowOk_nil h
  obtain ⟨a, rfl⟩ := okc_b h0
  obtain ⟨b, rfl, _⟩ := okc_i h1
  obtain ⟨d, rfl⟩ := okc_b h2
  obtain ⟨e, rfl, he⟩ := okc_s h3
  exact ⟨⟨a, b, d, e⟩, rfl, he⟩
theorem talk_of {xs : List RV} (h : RowOk talkRow xs) : ∃ t : Talk, AV.agg (xs.map .r) = t.ro ∧ t.says.length ≤ maxLen ∧ ∀ s ∈ t.says, s.text.length ≤ maxLen := by
  obtain ⟨x0, r, rfl, h0, h⟩ := rowOk_cons h
  obtain ⟨x1, r, rfl, h1, h⟩ := rowOk_cons h
  obtain ⟨x2, r, rfl, h2, h⟩ := rowOk_cons h
  obtain ⟨x3, r, rfl, h3, h⟩ := rowOk_cons h
  obtain ⟨x4, r, rfl, h4, h⟩ := rowOk_cons h
  obtain ⟨x5, r, rfl, h5, h⟩ := rowOk_cons h
  obtain ⟨x6, r, rfl, h6, h⟩ := rowOk_cons h
  obtain ⟨x7, r, rfl, h7, h⟩ := rowOk_cons h
  obtain ⟨x8, r, rfl, h8, h⟩ := rowOk_cons h
  obtain ⟨x9, r, rfl, h9, h⟩ := rowOk_cons h
  obtain ⟨xa, r, rfl, ha, h⟩ := rowOk_cons h
  obtain ⟨xb, r, rfl, hb, h⟩ := rowOk_cons h
  obtain rfl := rowOk_nil h
  obtain ⟨n0, rfl, _⟩ := okc_i h0
  obtain ⟨n1, rfl, _⟩ := okc_i h1
  obtain ⟨n2, rfl, _⟩ := okc_i h2
  obtain ⟨n3, rfl, _⟩ := okc_i h3
  obtain ⟨n4, rfl, _⟩ := okc_i h4
  obtain ⟨n5, rfl, _⟩ := okc_i h5
  obtain ⟨n6, rfl, _⟩ := okc_i h6
  obtain ⟨n7, rfl, _⟩ := okc_i h7
  obtain ⟨n8, rfl, _⟩ := okc_i h8
  obtain ⟨n9, rfl, _⟩ := okc_i h9
  obtain ⟨na, rfl, _⟩ := okc_i ha
  obtain ⟨L, rfl, hL, hrows⟩ := okc_sl hb
  obtain ⟨l, rfl, hl⟩ := rows_of say_of hrows
  exact ⟨⟨n0, n1, ⟨n2, n3, n4, n5⟩, ⟨n6, n7, n8, n9⟩, na, l⟩, rfl, by simpa using hL, hl⟩
theorem vw_talk {hp : List (Nat × Blk)} {b : Nat} {t : Talk} {n : Nat} (h : hget hp b = some (.row 4 (t.says.map Say.row))) (hn : n = t.says.length) : Vw hp (t.av (.sl b 0 n)) t.ro :=
  vw_agg (.cons (.r _) (.cons (.r _) (.cons (.r _) (.cons (.r _) (.cons (.r _) (.cons (.r _) (.cons (.r _) (.cons (.r _) (.cons (.r _) (.cons (.r _) (.cons (.r _) (.cons (Vw.full h (by simpa using hn)) .nil))))))))))))

end Go.Cap
