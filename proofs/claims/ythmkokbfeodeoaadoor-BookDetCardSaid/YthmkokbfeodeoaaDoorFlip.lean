/- Contract of the reference's Flip. -/
import Derived.Test.YthmkokbfeodeoaaDoorDetMath
import Derived.Test.YthmkokbfeodeoaaDoorMem
import Derived.Deep.LoopGhost
namespace Go.Proofs.YthmkokbfeodeoaaDoor
open Go.RowKit
set_option linter.unusedVariables false
set_option linter.unusedSimpArgs false

/-- column j of the first k rows -/
def colTo (rows : List (List Int)) (j k : Nat) : List Int := (List.range k).map fun i => (rows.getD i []).getD j 0
/-- the first k columns -/
def flipTo (rows : List (List Int)) (n k : Nat) : List (List Int) := (List.range k).map fun j => colTo rows j n
theorem colTo_succ (rows : List (List Int)) (j k : Nat) : colTo rows j (k + 1) = colTo rows j k ++ [(rows.getD k []).getD j 0] := by simp [colTo, List.range_succ]
theorem flipTo_succ (rows : List (List Int)) (n k : Nat) : flipTo rows n (k + 1) = flipTo rows n k ++ [colTo rows k n] := by simp [flipTo, List.range_succ]
theorem colTo_len (rows : List (List Int)) (j k : Nat) : (colTo rows j k).length = k := by simp [colTo]
theorem flipTo_len (rows : List (List Int)) (n k : Nat) : (flipTo rows n k).length = k := by simp [flipTo]

end Go.Proofs.YthmkokbfeodeoaaDoor
