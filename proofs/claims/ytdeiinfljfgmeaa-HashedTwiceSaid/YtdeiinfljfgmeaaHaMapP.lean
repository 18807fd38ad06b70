/-
  Rows by what they have in columns: the plain part.
-/
import Derived.Test.YtdeiinfljfgmeaaHaCom2
namespace Go.Proofs.Ytdeiinfljfgmeaa
open Go.RowKit
set_option linter.unusedVariables false
set_option linter.unusedSimpArgs false

/-- The rows that a key has. -/
def grpL (rows : List (List Int)) (o : List Int) (s : List UInt8) : List (List Int) := rows.filter fun r => decide (keyL (cellsL r o) = s)
theorem grpL_snoc (rows : List (List Int)) (r o : List Int) (s : List UInt8) : grpL (rows ++ [r]) o s = grpL rows o s ++ if keyL (cellsL r o) = s then [r] else [] := by
  unfold grpL
  rw [List.filter_append]
  by_cases h : keyL (cellsL r o) = s
  · simp [h]
  · simp [h]
/-- A key tells the cells: the rows of x's key are those with x's cells. -/
theorem grpL_key {rows : List (List Int)} {o : List Int} {c : List Int} (hc : ∀ x ∈ c, 0 ≤ x ∧ x < 18446744073709551616) (hr : ∀ r ∈ rows, ∀ x ∈ cellsL r o, 0 ≤ x ∧ x < 18446744073709551616) :
    grpL rows o (keyL c) = rows.filter fun r => decide (cellsL r o = c) := by
  unfold grpL
  refine List.filter_congr fun r h => ?_
  by_cases e : cellsL r o = c
  · rw [e, decide_eq_true rfl, decide_eq_true rfl]
  · rw [decide_eq_false e, decide_eq_false fun q => e (keyL_inj (hr r h) hc q)]
end Go.Proofs.Ytdeiinfljfgmeaa
