/- Contract of the reference's Skew. -/
import Derived.Test.YtkcgcedldjcfjaaDoorRMatrix
import Derived.Test.YtkcgcedldjcfjaaDoorPfFn
namespace Go.Proofs.YtkcgcedldjcfjaaDoor
open Go.RowKit
set_option linter.unusedVariables false
set_option linter.unusedSimpArgs false

theorem HSkew_bad (a : Option Addr) (n cap : Nat) (rows : List (List Int)) (w : World) (hr : RowsAt w a n rows) (hs : Small n rows) (he : sqErr rows 6 (-9) 9 ≠ 0) :
    Calls Tryd.prog 4 #[.slice a n cap] w fun e w' => e = .returned (.int .i64 (sqErr rows 6 (-9) 9)) ∧ Below w.heap.size w w' := by
  have hG := RSquare_any a n cap rows 6 (-9) 9 w hr (by omega) (by omega) hs.1 hs.2
  have hsn := hs.1
  clear hr hs
  generalize sqErr rows 6 (-9) 9 = e at *
  have heb : (e == 0) = false := by simp [he]
  by_cases hn : n = 0
  · subst hn
    go_enter Tryd.func4, Tryd.ntmps4
    go_wp2_with fail
    go_at_call 11
    refine (hG).mono ?_
    rintro e w1 ⟨rfl, hb⟩
    go_wp2_with fail
    go_loopg [3, 4] 1 (fun g t i wr => t = .int .i64 e ∧ i = .int .i64 0 ∧ wr = w1)
    case atStart => exact ⟨rfl, rfl, rfl⟩
    case round =>
      obtain ⟨rfl, rfl, rfl⟩ := hrel
      go_wp2_with fail
      go_ret
      exact ⟨rfl, hb⟩
  · have hn0 : (0 : Int) < n := by omega
    go_enter Tryd.func4, Tryd.ntmps4
    go_wp2_with fail
    go_at_call 11
    refine (hG).mono ?_
    rintro e w1 ⟨rfl, hb⟩
    go_wp2_with fail
    go_loopg [3, 4] 1 (fun g t i wr => t = .int .i64 e ∧ i = .int .i64 0 ∧ wr = w1)
    case atStart => exact ⟨rfl, rfl, rfl⟩
    case round =>
      obtain ⟨rfl, rfl, rfl⟩ := hrel
      go_wp2_with fail
      go_ret
      exact ⟨rfl, hb⟩
end Go.Proofs.YtkcgcedldjcfjaaDoor
