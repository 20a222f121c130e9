/- Contract of num.First, of two errors. -/
import Derived.Test.YtkpoemfdepjkaaaGreatDoorAny
import Derived.Deep.LoopGhost
namespace Go.Proofs.YtkpoemfdepjkaaaGreatDoor
open Go.RowKit
set_option linter.unusedVariables false
set_option linter.unusedSimpArgs false

theorem First_two (b : Nat) (x y : Int) (w : World) (h0 : w.cell? ⟨b, 0, none⟩ = some (errV x)) (h1 : w.cell? ⟨b, 1, none⟩ = some (errV y)) :
    Calls Tryz.prog 27 #[.slice (some ⟨b, 0, none⟩) 2 2] w fun e w' => e = .returned (errV (if x ≠ 0 then x else y)) ∧ w = w' := by
  by_cases hx : x = 0
  · rw [if_neg (by omega)]
    subst hx
    rw [errV_zero] at h0
    by_cases hy : y = 0
    · subst hy
      rw [errV_zero] at h1 ⊢
      go_enter Tryz.func27, Tryz.ntmps27
      go_wp2_with fail
      go_loopg [7] 3 (fun g i wr => ∃ k : Nat, k ≤ 2 ∧ 2 - k < g ∧ i = .int .i64 k ∧ wr = w)
      case atStart => exact ⟨0, by omega, by omega, rfl, rfl⟩
      case round =>
        obtain ⟨k, hk, hg, rfl, rfl⟩ := hrel
        have hc : k = 0 ∨ k = 1 ∨ k = 2 := by omega
        rcases hc with rfl | rfl | rfl
        · go_wp2_with fail
          go_roundg 2
          case measure => omega
          case rel => exact ⟨1, by omega, by omega, rfl, rfl⟩
        · go_wp2_with fail
          go_roundg 1
          case measure => omega
          case rel => exact ⟨2, by omega, by omega, rfl, rfl⟩
        · go_wp2_with fail
          go_ret
          exact ⟨rfl, rfl⟩
    · rw [errV_pos hy] at h1 ⊢
      go_enter Tryz.func27, Tryz.ntmps27
      go_wp2_with fail
      go_loopg [7] 3 (fun g i wr => ∃ k : Nat, k ≤ 1 ∧ 2 - k < g ∧ i = .int .i64 k ∧ wr = w)
      case atStart => exact ⟨0, by omega, by omega, rfl, rfl⟩
      case round =>
        obtain ⟨k, hk, hg, rfl, rfl⟩ := hrel
        have hc : k = 0 ∨ k = 1 := by omega
        rcases hc with rfl | rfl
        · go_wp2_with fail
          go_roundg 2
          case measure => omega
          case rel => exact ⟨1, by omega, by omega, rfl, rfl⟩
        · go_wp2_with fail
          go_ret
          exact ⟨rfl, rfl⟩
  · rw [if_pos hx]
    rw [errV_pos hx] at h0 ⊢
    clear h1
    go_enter Tryz.func27, Tryz.ntmps27
    go_wp2_with fail
    go_loopg [7] 3 (fun g i wr => i = .int .i64 0 ∧ wr = w)
    case atStart => exact ⟨rfl, rfl⟩
    case round =>
      obtain ⟨rfl, rfl⟩ := hrel
      go_wp2_with fail
      go_ret
      exact ⟨rfl, rfl⟩
end Go.Proofs.YtkpoemfdepjkaaaGreatDoor
