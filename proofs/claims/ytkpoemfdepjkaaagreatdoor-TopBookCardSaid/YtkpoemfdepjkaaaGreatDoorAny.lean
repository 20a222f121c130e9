/- Contracts of num.Out and num.Any. -/
import Derived.Test.YtkpoemfdepjkaaaGreatDoorBase
namespace Go.Proofs.YtkpoemfdepjkaaaGreatDoor
open Go.RowKit
set_option linter.unusedVariables false
set_option linter.unusedSimpArgs false

theorem Out_any (n lo hi : Int) (w : World) :
    Calls Tryz.prog 48 #[.int .i64 n, .int .i64 lo, .int .i64 hi] w fun e w' => e = .returned (.bool (decide (n < lo) || decide (hi < n))) ∧ w = w' := by
  by_cases h1 : n < lo
  · go_enter Tryz.func48, Tryz.ntmps48
    go_wp2
    go_ret
    exact ⟨ret_bool (by simp [h1]), rfl⟩
  · by_cases h2 : hi < n
    · go_enter Tryz.func48, Tryz.ntmps48
      go_wp2
      go_ret
      exact ⟨ret_bool (by simp [h2]), rfl⟩
    · go_enter Tryz.func48, Tryz.ntmps48
      go_wp2
      go_ret
      exact ⟨ret_bool (by simp [h1, h2]), rfl⟩

theorem Out_any' (n lo hi : Int) (w : World) :
    Calls Tryz.prog 48 #[.int .i64 n, .int .i64 lo, .int .i64 hi] w fun e w' => e = .returned (.bool (outB lo hi n)) ∧ w = w' := Out_any n lo hi w

theorem Any_any (a : Option Addr) (n cap : Nat) (xs : List Int) (lo hi : Int) (w : World) (hx : IntsAt w a n xs) (hn : n ≤ 9223372036854775807) :
    Calls Tryz.prog 47 #[.slice a n cap, .int .i64 lo, .int .i64 hi] w fun e w' => e = .returned (.bool (anyOut lo hi xs)) ∧ w = w' := by
  obtain ⟨hlen, hc⟩ := hx
  have HL := Lib.hid hlen
  clear hlen
  go_enter Tryz.func47, Tryz.ntmps47
  go_wp2
  go_loop [11] (fun i => ∃ k : Nat, k ≤ n ∧ i = .int .i64 k ∧ (xs.take k).any (outB lo hi) = false) (fun i => n - (intOf i).toNat)
  case atStart => exact ⟨0, by omega, rfl, by simp⟩
  case round =>
    obtain ⟨k, hk, rfl, h0⟩ := hrel
    have H0 := Lib.hid h0
    clear h0
    by_cases hlt : k < n
    · obtain ⟨b, off, rfl, hcell⟩ := hc k hlt
      obtain ⟨x, hx⟩ : ∃ x, x = xs.getD k 0 := ⟨_, rfl⟩
      rw [← hx] at hcell
      have HX := Lib.hid hx
      clear hx hc
      by_cases ho : outB lo hi x = true
      · go_wp2_with (go_at_call 48; refine (Out_any' _ _ _ _).mono ?_; rintro e w' ⟨rfl, rfl⟩)
        go_ret
        exact ⟨ret_bool (anyOut_hit lo hi xs k (by rw [HL.out]; exact hlt) (by rw [← HX.out]; exact ho)).symm, rfl⟩
      · have ho' : outB lo hi x = false := by simpa using ho
        clear ho
        go_wp2_with (go_at_call 48; refine (Out_any' _ _ _ _).mono ?_; rintro e w' ⟨rfl, rfl⟩)
        go_round
        case rel => exact ⟨k + 1, by omega, by go_num, anyOut_snoc lo hi xs k (by rw [HL.out]; exact hlt) H0.out (by rw [← HX.out]; exact ho')⟩
        case measure => simp [intOf]; omega
    · have he : (xs.take k).any (outB lo hi) = anyOut lo hi xs := by unfold anyOut; rw [List.take_of_length_le (by rw [HL.out]; omega)]
      rw [he] at H0
      go_wp2
      go_ret
      exact ⟨ret_bool H0.out.symm, rfl⟩
end Go.Proofs.YtkpoemfdepjkaaaGreatDoor
