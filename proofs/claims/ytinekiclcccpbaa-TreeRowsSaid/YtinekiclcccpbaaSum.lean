/- Contract of rankmeresame.Sum. -/
import Derived.Test.YtinekiclcccpbaaMem
import Derived.Test.YtinekiclcccpbaaDetMath
import Derived.Deep.LoopGhost
namespace Go.Proofs.Ytinekiclcccpbaa
open Go.RowKit
set_option linter.unusedVariables false
set_option linter.unusedSimpArgs false

theorem ESum_any (a : Option Addr) (n cap : Nat) (xs : List Int) (w : World) (hx : IntsAt w a n xs) (hn : n ≤ 9223372036854775807) :
    Calls Try.prog 10 #[.slice a n cap] w fun e w' => e = .returned (.int .i64 (wrap64 (sumTo (fun i => xs.getD i 0) n))) ∧ w = w' := by
  obtain ⟨hlen, hc⟩ := hx
  have HL := Lib.hid hlen
  clear hlen
  go_enter Try.func10, Try.ntmps10
  go_wp2
  go_loopg [3, 4] (n + 1) (fun g s i wr => ∃ k : Nat, k ≤ n ∧ n - k < g ∧ s = .int .i64 (wrap64 (sumTo (fun i => xs.getD i 0) k)) ∧ i = .int .i64 k ∧ wr = w)
  case atStart => exact ⟨0, by omega, by omega, by rw [sumTo, wrap_in (by omega) (by omega)], rfl, rfl⟩
  case round =>
    obtain ⟨k, hk, hg, rfl, rfl, rfl⟩ := hrel
    by_cases hlt : k < n
    · obtain ⟨b, off, rfl, hcell⟩ := hc k hlt
      obtain ⟨x, hx⟩ : ∃ x, x = xs.getD k 0 := ⟨_, rfl⟩
      rw [← hx] at hcell
      have HX := Lib.hid hx
      obtain ⟨P, hP⟩ : ∃ P, P = sumTo (fun i => xs.getD i 0) k := ⟨_, rfl⟩
      rw [← hP]
      have HP := Lib.hid hP
      clear hx hc hP
      go_wp2
      go_roundg (n - k)
      case measure => omega
      case rel => exact ⟨k + 1, by omega, by omega, by rw [wrap_add_l, HP.out, HX.out, sumTo], by go_num, rfl⟩
    · obtain rfl : k = n := by omega
      go_wp2
      go_ret
      exact ⟨rfl, rfl⟩
end Go.Proofs.Ytinekiclcccpbaa
