/- The closed fact on permanents. -/
import Derived.Test.YtacdhgenpcgddaaPairs
namespace Go.Proofs.Ytacdhgenpcgddaa
open Go.RowKit
set_option linter.unusedVariables false
set_option linter.unusedSimpArgs false

theorem fact_perm : permV [[1, 2], [3, 4]] = 10 ∧ sqErr [[1, 2], [3, 4]] 5 (-9) 9 = 0 ∧ pairsV [[1, 0], [5, 2]] = 1 ∧ sqErr [[1, 0], [5, 2]] 5 (-9) 9 = 0 := by decide +kernel

set_option maxHeartbeats 1000000 in
theorem permFact_any (w : World) :
    Calls Try.prog 4 #[] w fun e w' => e = .returned (.bool true) ∧ Below w.heap.size w w' := by
  obtain ⟨hv, he, hv4, he4⟩ := fact_perm
  have hC := fun a (w : World) (h : RowsAt w a 2 [[1, 2], [3, 4]]) => PermFn_any a 2 2 [[1, 2], [3, 4]] w h (by omega) ⟨by omega, by intro k hk; match k, hk with | 0, _ => simp | 1, _ => simp⟩
  have hC4 := fun a (w : World) (h : RowsAt w a 2 [[1, 0], [5, 2]]) => Pairs_any a 2 2 [[1, 0], [5, 2]] w h ⟨by omega, by intro k hk; match k, hk with | 0, _ => simp | 1, _ => simp⟩
  rw [hv, he, errV_zero] at hC
  rw [hv4, he4, errV_zero] at hC4
  clear hv he hv4 he4
  go_enter Try.func4, Try.ntmps4
  go_wp2_with fail
  go_at_call 9
  refine (hC _ _ ?_).mono ?_
  · refine ⟨rfl, fun i hi => ?_⟩
    match i, hi with
    | 0, _ => exact ⟨_, 0, some ⟨w.heap.size, 0, none⟩, 2, rfl, by go_simp, by simp, by simp [maxLen], by simp, IntsAt_two _ _ _ _ (by go_simp) (by go_simp)⟩
    | 1, _ => exact ⟨_, 0, some ⟨w.heap.size + 1, 0, none⟩, 2, rfl, by go_simp, by simp, by simp [maxLen], by simp, IntsAt_two _ _ _ _ (by go_simp) (by go_simp)⟩
  rintro e w1 ⟨rfl, hb⟩
  have hB := hb.mono (show w.heap.size + 3 ≤ _ from by simp)
  have hB1 : Below w.heap.size w w1 := ((((Below.refl _ _).alloc (Nat.le_refl _) _).alloc (by simp) _).alloc (by simp; omega) _).trans (hB.mono (by omega))
  clear hb hC hB
  go_wp2_with fail
  go_at_call 5
  refine (hC4 _ _ ?_).mono ?_
  · refine ⟨rfl, fun i hi => ?_⟩
    match i, hi with
    | 0, _ => exact ⟨_, 0, some ⟨w1.heap.size, 0, none⟩, 2, rfl, by go_simp, by simp, by simp [maxLen], by simp, IntsAt_two _ _ _ _ (by go_simp) (by go_simp)⟩
    | 1, _ => exact ⟨_, 0, some ⟨w1.heap.size + 1, 0, none⟩, 2, rfl, by go_simp, by simp, by simp [maxLen], by simp, IntsAt_two _ _ _ _ (by go_simp) (by go_simp)⟩
  rintro e w2 ⟨rfl, hb⟩
  have hB2 : Below w1.heap.size w1 w2 := ((((Below.refl _ _).alloc (Nat.le_refl _) _).alloc (by simp) _).alloc (by simp; omega) _).trans (hb.mono (by simp; omega))
  clear hb hC4
  go_wp2_with fail
  go_ret
  exact ⟨rfl, below_trans hB1 hB2⟩
end Go.Proofs.Ytacdhgenpcgddaa
