/- Contract of the law's in. -/
import Derived.Test.YtkpoemfdepjkaaaGreatDoorBase
namespace Go.Proofs.YtkpoemfdepjkaaaGreatDoor
open Go.RowKit
set_option linter.unusedVariables false
set_option linter.unusedSimpArgs false

theorem inB_yes {n lo hi : Int} (h1 : lo ≤ n) (h2 : n ≤ hi) : inB n lo hi = true := by simp [inB, h1, h2]
theorem inB_no {n lo hi : Int} (h : n < lo ∨ hi < n) : inB n lo hi = false := by
  unfold inB
  rcases h with h | h
  · simp [show ¬ lo ≤ n by omega]
  · simp [show ¬ n ≤ hi by omega]
theorem inB_false {n lo hi : Int} (h : inB n lo hi = false) : n < lo ∨ hi < n := by
  unfold inB at h
  by_cases h1 : lo ≤ n
  · simp [h1] at h; omega
  · omega
end Go.Proofs.YtkpoemfdepjkaaaGreatDoor
