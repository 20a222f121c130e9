/- The closed fact on Pfaffians. -/
import Derived.Test.YtdpdopgngpamnaaPfFn
namespace Go.Proofs.Ytdpdopgngpamnaa
open Go.RowKit
set_option linter.unusedVariables false
set_option linter.unusedSimpArgs false

theorem IntsAt_four (w : World) (B : Nat) (x y z t : Int) (h0 : w.cell? ⟨B, 0, none⟩ = some (.int .i64 x)) (h1 : w.cell? ⟨B, 1, none⟩ = some (.int .i64 y)) (h2 : w.cell? ⟨B, 2, none⟩ = some (.int .i64 z)) (h3 : w.cell? ⟨B, 3, none⟩ = some (.int .i64 t)) :
    IntsAt w (some ⟨B, 0, none⟩) 4 [x, y, z, t] := by
  refine ⟨rfl, fun i hi => ⟨B, 0, rfl, ?_⟩⟩
  match i, hi with
  | 0, _ => simpa using h0
  | 1, _ => simpa using h1
  | 2, _ => simpa using h2
  | 3, _ => simpa using h3

theorem fact_pf : pfV [[0, 2], [-2, 0]] = 2 ∧ skErr [[0, 2], [-2, 0]] = 0 ∧ pfV [[0, 1, 0, 0], [-1, 0, 0, 0], [0, 0, 0, 3], [0, 0, -3, 0]] = 3 ∧ skErr [[0, 1, 0, 0], [-1, 0, 0, 0], [0, 0, 0, 3], [0, 0, -3, 0]] = 0 := by decide +kernel

set_option maxHeartbeats 1000000 in
theorem pfaffFact_any (w : World) :
    Calls Try.prog 6 #[] w fun e w' => e = .returned (.bool true) ∧ Below w.heap.size w w' := by
  obtain ⟨hv, he, hv4, he4⟩ := fact_pf
  have hC := fun a (w : World) (h : RowsAt w a 2 [[0, 2], [-2, 0]]) => PfFn_any a 2 2 [[0, 2], [-2, 0]] w h (by omega) ⟨by omega, by intro k hk; match k, hk with | 0, _ => simp | 1, _ => simp⟩
  have hC4 := fun a (w : World) (h : RowsAt w a 4 [[0, 1, 0, 0], [-1, 0, 0, 0], [0, 0, 0, 3], [0, 0, -3, 0]]) => PfFn_any a 4 4 [[0, 1, 0, 0], [-1, 0, 0, 0], [0, 0, 0, 3], [0, 0, -3, 0]] w h (by omega) ⟨by omega, by intro k hk; match k, hk with | 0, _ => simp | 1, _ => simp | 2, _ => simp | 3, _ => simp⟩
  rw [hv, he, errV_zero] at hC
  rw [hv4, he4, errV_zero] at hC4
  clear hv he hv4 he4
  go_enter Try.func6, Try.ntmps6
  go_wp2_with fail
  go_at_call 7
  refine (hC _ _ ?_).mono ?_
  · refine ⟨rfl, fun i hi => ?_⟩
    match i, hi with
    | 0, _ => exact ⟨_, 0, some ⟨w.heap.size, 0, none⟩, 2, rfl, by go_simp, by simp, by simp [maxLen], by simp, IntsAt_two _ _ _ _ (by go_simp) (by go_simp)⟩
    | 1, _ => exact ⟨_, 0, some ⟨w.heap.size + 1, 0, none⟩, 2, rfl, by go_simp, by simp, by simp [maxLen], by simp, IntsAt_two _ _ _ _ (by go_simp) (by go_simp)⟩
  rintro e w1 ⟨rfl, hb⟩
  have hB := hb.mono (show w.heap.size + 3 ≤ _ from by simp)
  have hB1 : Below w.heap.size w w1 := ((((Below.refl _ _).alloc (Nat.le_refl _) _).alloc (by simp) _).alloc (by simp; omega) _).trans (hB.mono (by omega))
  clear hb hC hB
  go_wp2_with fail
  go_at_call 7
  refine (hC4 _ _ ?_).mono ?_
  · refine ⟨rfl, fun i hi => ?_⟩
    match i, hi with
    | 0, _ => exact ⟨_, 0, some ⟨w1.heap.size, 0, none⟩, 4, rfl, by go_simp, by simp, by simp [maxLen], by simp, IntsAt_four _ _ _ _ _ _ (by go_simp) (by go_simp) (by go_simp) (by go_simp)⟩
    | 1, _ => exact ⟨_, 0, some ⟨w1.heap.size + 1, 0, none⟩, 4, rfl, by go_simp, by simp, by simp [maxLen], by simp, IntsAt_four _ _ _ _ _ _ (by go_simp) (by go_simp) (by go_simp) (by go_simp)⟩
    | 2, _ => exact ⟨_, 0, some ⟨w1.heap.size + 1 + 1, 0, none⟩, 4, rfl, by go_simp, by simp, by simp [maxLen], by simp, IntsAt_four _ _ _ _ _ _ (by go_simp) (by go_simp) (by go_simp) (by go_simp)⟩
    | 3, _ => exact ⟨_, 0, some ⟨w1.heap.size + 1 + 1 + 1, 0, none⟩, 4, rfl, by go_simp, by simp, by simp [maxLen], by simp, IntsAt_four _ _ _ _ _ _ (by go_simp) (by go_simp) (by go_simp) (by go_simp)⟩
  rintro e w2 ⟨rfl, hb⟩
  have hB2 : Below w1.heap.size w1 w2 := ((((((Below.refl _ _).alloc (Nat.le_refl _) _).alloc (by simp) _).alloc (by simp; omega) _).alloc (by simp; omega) _).alloc (by simp; omega) _).trans (hb.mono (by simp; omega))
  clear hb hC4
  go_wp2_with fail
  go_ret
  exact ⟨rfl, below_trans hB1 hB2⟩
end Go.Proofs.Ytdpdopgngpamnaa
