/- The closed fact on trees. -/
import Derived.Test.YtikghgpnjeaebaaDoorTree
namespace Go.Proofs.YtikghgpnjeaebaaDoor
open Go.RowKit
set_option linter.unusedVariables false
set_option linter.unusedSimpArgs false

theorem fact_trees : treesV 3 [[0, 1], [1, 2], [2, 0]] = 3 ∧ treeErr 3 [[0, 1], [1, 2], [2, 0]] = 0 := by decide

theorem treeFact_any (w : World) :
    Calls Tryd.prog 4 #[] w fun e w' => e = .returned (.bool true) ∧ Below w.heap.size w w' := by
  obtain ⟨hv, he⟩ := fact_trees
  have hC := fun a (w : World) (h : RowsAt w a 3 [[0, 1], [1, 2], [2, 0]]) => TCount_any 3 a 3 3 [[0, 1], [1, 2], [2, 0]] w h ⟨by omega, by intro k hk; match k, hk with | 0, _ => simp | 1, _ => simp | 2, _ => simp⟩
  rw [hv, he, errV_zero] at hC
  clear hv he
  go_enter Tryd.func4, Tryd.ntmps4
  go_wp2_with fail
  go_at_call 6
  refine (hC _ _ ?_).mono ?_
  · refine ⟨rfl, fun i hi => ?_⟩
    match i, hi with
    | 0, _ => exact ⟨_, 0, some ⟨w.heap.size, 0, none⟩, 2, rfl, by go_simp, by simp, by simp [maxLen], by simp, IntsAt_two _ _ _ _ (by go_simp) (by go_simp)⟩
    | 1, _ => exact ⟨_, 0, some ⟨w.heap.size + 1, 0, none⟩, 2, rfl, by go_simp, by simp, by simp [maxLen], by simp, IntsAt_two _ _ _ _ (by go_simp) (by go_simp)⟩
    | 2, _ => exact ⟨_, 0, some ⟨w.heap.size + 1 + 1, 0, none⟩, 2, rfl, by go_simp, by simp, by simp [maxLen], by simp, IntsAt_two _ _ _ _ (by go_simp) (by go_simp)⟩
  rintro e w1 ⟨rfl, hb⟩
  have hB := hb.mono (show w.heap.size + 4 ≤ _ from by simp)
  clear hb hC
  go_wp2_with fail
  go_ret
  exact ⟨rfl, (((((Below.refl _ _).alloc (Nat.le_refl _) _).alloc (by simp) _).alloc (by simp; omega) _).alloc (by simp; omega) _).trans (hB.mono (by omega))⟩
end Go.Proofs.YtikghgpnjeaebaaDoor
