/- Plain law: how many ways there are so far right and so far up. No program in sight. -/
import Derived.Test.YthbfeecbaanegaaDetMath
namespace Go.Proofs.Ythbfeecbaanegaa
open Go.RowKit
set_option linter.unusedVariables false
set_option linter.unusedSimpArgs false

/-- running sums, so many times -/
def waysT : Nat → Nat → Int
  | 0, i => if i = 0 then 1 else 0
  | t + 1, i => sumTo (waysT t) (i + 1)
/-- what paths.ways answers -/
def waysZ (right : Nat) (up : Int) : Int := if up < 0 then 0 else waysT (right + 1) up.toNat

theorem waysT_zero (t : Nat) : waysT t 0 = 1 := by
  induction t with
  | zero => rfl
  | succ t ih => rw [waysT, sumTo, sumTo, ih]; rfl
theorem waysT_succ (t i : Nat) : waysT (t + 1) (i + 1) = waysT t (i + 1) + waysT (t + 1) i := by
  have e : waysT (t + 1) i = sumTo (waysT t) (i + 1) := rfl
  rw [waysT, sumTo, e]
  omega
theorem waysT_bd : ∀ t, t < 7 → ∀ i, i < 8 → 0 ≤ waysT t i ∧ waysT t i ≤ 10000 := by decide +kernel
end Go.Proofs.Ythbfeecbaanegaa
