/- Contract of the reference's Ways. -/
import Derived.Test.YtbojcbpmalgdlaaDoorHApMath
import Derived.Test.YtbojcbpmalgdlaaDoorMem
import Derived.Deep.LoopGhost
namespace Go.Proofs.YtbojcbpmalgdlaaDoor
open Go.RowKit
set_option linter.unusedVariables false
set_option linter.unusedSimpArgs false

theorem HWays_any (s : Nat) (hs : s ≤ 1000) : ∀ (r u : Nat) (w : World), r + u = s →
    Calls Tryd.prog 10 #[.int .i64 r, .int .i64 u] w fun e w' => e = .returned (.int .i64 (wrap64 (hwU r u))) ∧ w = w' := by
  induction s with
  | zero =>
    intro r u w h
    obtain rfl : r = 0 := by omega
    have hz : (((0 : Nat) : Int) == 0) = true := by decide
    go_enter Tryd.func10, Tryd.ntmps10
    go_wp2_with fail
    go_ret
    exact ⟨ret_int (by rw [hwU, wrap_in (by omega) (by omega)]), rfl⟩
  | succ s ih =>
    intro r u w h
    match r, u with
    | 0, u =>
      have hz : (((0 : Nat) : Int) == 0) = true := by decide
      clear ih
      go_enter Tryd.func10, Tryd.ntmps10
      go_wp2_with fail
      go_ret
      exact ⟨ret_int (by rw [hwU, wrap_in (by omega) (by omega)]), rfl⟩
    | r + 1, 0 =>
      have hz : (((0 : Nat) : Int) == 0) = true := by decide
      have hz2 : ((r : Int) + 1 == 0) = false := by simp; omega
      clear ih
      go_enter Tryd.func10, Tryd.ntmps10
      go_wp2_with fail
      go_ret
      exact ⟨ret_int (by rw [hwU, wrap_in (by omega) (by omega)]), rfl⟩
    | r + 1, u + 1 =>
      have i1 : Calls Tryd.prog 10 #[.int .i64 r, .int .i64 ((u : Int) + 1)] w fun e w' => e = .returned (.int .i64 (wrap64 (hwU r (u + 1)))) ∧ w = w' := ih (by omega) r (u + 1) w (by omega)
      have i2 : Calls Tryd.prog 10 #[.int .i64 ((r : Int) + 1), .int .i64 u] w fun e w' => e = .returned (.int .i64 (wrap64 (hwU (r + 1) u))) ∧ w = w' := ih (by omega) (r + 1) u w (by omega)
      have hz1 : ((r : Int) + 1 == 0) = false := by simp; omega
      have hz2 : ((u : Int) + 1 == 0) = false := by simp; omega
      have hv : wrap64 (hwU (r + 1) (u + 1)) = wrap64 (wrap64 (hwU r (u + 1)) + wrap64 (hwU (r + 1) u)) := by rw [hwU, wrap_add_l, wrap_add_r]
      rw [hv]
      generalize hwU r (u + 1) = X at *
      generalize hwU (r + 1) u = Y at *
      have I1 := Lib.hid i1
      have I2 := Lib.hid i2
      have hr : (r : Int) ≤ 1000 := by omega
      have hu : (u : Int) ≤ 1000 := by omega
      clear ih hv i1 i2
      go_enter Tryd.func10, Tryd.ntmps10
      go_wp2_with (first
        | (go_at_call 10; ((with_reducible refine I1.out.mono ?_); rintro e w1 ⟨rfl, rfl⟩))
        | (go_at_call 10; ((with_reducible refine I2.out.mono ?_); rintro e w2 ⟨rfl, rfl⟩)))
      go_ret
      exact ⟨rfl, rfl⟩
end Go.Proofs.YtbojcbpmalgdlaaDoor
