/- Contracts of the reference's in, All, Matrix, Square. -/
import Derived.Test.YtabenflchnobmaaDoorMem
import Derived.Test.YtabenflchnobmaaDoorErrMath
import Derived.Deep.LoopGhost
import Derived.BigQuiet
namespace Go.Proofs.YtabenflchnobmaaDoor
open Go.RowKit
set_option linter.unusedVariables false
set_option linter.unusedSimpArgs false

theorem Rin_any (n lo hi : Int) (w : World) :
    Calls Tryd.prog 22 #[.int .i64 n, .int .i64 lo, .int .i64 hi] w fun e w' => e = .returned (.bool (inB n lo hi)) ∧ w = w' := by
  by_cases h1 : lo ≤ n <;> by_cases h2 : n ≤ hi
  all_goals
    go_enter Tryd.func22, Tryd.ntmps22
    go_wp2
    go_ret
    exact ⟨ret_bool (by simp [inB, h1, h2]), rfl⟩

theorem RAll_any (a : Option Addr) (n cap : Nat) (xs : List Int) (lo hi : Int) (w : World) (hx : IntsAt w a n xs) (hn : n ≤ 9223372036854775807) :
    Calls Tryd.prog 13 #[.slice a n cap, .int .i64 lo, .int .i64 hi] w fun e w' => e = .returned (.bool (!anyOut lo hi xs)) ∧ w = w' := by
  obtain ⟨hlen, hc⟩ := hx
  have HL := Lib.hid hlen
  clear hlen
  go_enter Tryd.func13, Tryd.ntmps13
  go_wp2
  go_loopg [7] (n + 1) (fun g i wr => ∃ k : Nat, k ≤ n ∧ n - k < g ∧ i = .int .i64 k ∧ (xs.take k).any (outB lo hi) = false ∧ wr = w)
  case atStart => exact ⟨0, by omega, by omega, rfl, by simp, rfl⟩
  case round =>
    obtain ⟨k, hk, hg, rfl, h0, rfl⟩ := hrel
    have H0 := Lib.hid h0
    clear h0
    by_cases hlt : k < n
    · obtain ⟨b, off, rfl, hcell⟩ := hc k hlt
      obtain ⟨x, hx⟩ : ∃ x, x = xs.getD k 0 := ⟨_, rfl⟩
      rw [← hx] at hcell
      have HX := Lib.hid hx
      clear hx hc
      cases ho : outB lo hi x
      · have hi' : inB x lo hi = true := by rw [inB_out, ho]; rfl
        go_wp2_with (go_at_call 22; refine (Rin_any _ _ _ _).mono ?_; rintro e w' ⟨rfl, rfl⟩)
        go_roundg (n - k)
        case measure => omega
        case rel => exact ⟨k + 1, by omega, by omega, by go_num, anyOut_snoc lo hi xs k (by rw [HL.out]; exact hlt) H0.out (by rw [← HX.out]; exact ho), rfl⟩
      · have hi' : inB x lo hi = false := by rw [inB_out, ho]; rfl
        go_wp2_with (go_at_call 22; refine (Rin_any _ _ _ _).mono ?_; rintro e w' ⟨rfl, rfl⟩)
        go_ret
        exact ⟨ret_bool (by rw [anyOut_hit lo hi xs k (by rw [HL.out]; exact hlt) (by rw [← HX.out]; exact ho)]; rfl), rfl⟩
    · have he : (xs.take k).any (outB lo hi) = anyOut lo hi xs := by unfold anyOut; rw [List.take_of_length_le (by rw [HL.out]; omega)]
      rw [he] at H0
      go_wp2
      go_ret
      exact ⟨ret_bool (by rw [H0.out]; rfl), rfl⟩


end Go.Proofs.YtabenflchnobmaaDoor
