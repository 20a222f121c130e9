/- Rows, one more taken; the cells of integers. -/
import Derived.Test.YthmkokbfeodeoaaDoorMem
namespace Go.Proofs.YthmkokbfeodeoaaDoor
open Go.RowKit
set_option linter.unusedVariables false
set_option linter.unusedSimpArgs false

theorem take_snoc_rows (rows : List (List Int)) (k : Nat) (hk : k < rows.length) : rows.take (k + 1) = rows.take k ++ [rows.getD k []] := by
  rw [List.take_succ_eq_append_getElem hk]
  simp [List.getD, hk]

/-- the cells of a slice of integers, as append reads them -/
theorem cells_of_ints {w : World} {a : Option Addr} {n : Nat} {xs : List Int} (h : IntsAt w a n xs) : ∀ j u, (xs.map (Value.int .i64))[j]? = some u → ∃ ad', a = some ad' ∧ w.cell? (ad'.add j) = some u := by
  intro j u hj
  have hjl := (List.getElem?_eq_some_iff.1 hj).1
  rw [List.length_map, h.1] at hjl
  obtain ⟨b, off, ha, hc⟩ := h.2 j hjl
  refine ⟨_, ha, ?_⟩
  rw [Go.WideShapes.add_plain, hc, ← hj]
  have hlen : j < xs.length := by rw [h.1]; exact hjl
  simp [hlen, List.getD]

end Go.Proofs.YthmkokbfeodeoaaDoor
