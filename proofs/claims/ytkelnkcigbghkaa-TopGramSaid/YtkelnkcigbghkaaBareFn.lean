/- Contracts of bareiss.Check and bareiss.Of. -/
import Derived.Test.YtkelnkcigbghkaaBareiss
import Derived.Test.YtkelnkcigbghkaaGrounds
namespace Go.Proofs.Ytkelnkcigbghkaa
open Go.RowKit
set_option linter.unusedVariables false
set_option linter.unusedSimpArgs false

theorem BCheck_any (a : Option Addr) (n cap : Nat) (rows : List (List Int)) (w : World) (hr : RowsAt w a n rows) (hs : Small n rows) :
    Calls Try.prog 13 #[.slice a n cap] w fun e w' => e = .returned (errV (sqErr rows 5 (-9) 9)) ∧ w = w' := by
  have hG := Square_any a n cap rows 5 (-9) 9 w hr (by omega) (by omega) hs.1 hs.2
  have HS := Lib.hid hs
  clear hs
  go_enter Try.func13, Try.ntmps13
  go_wp2_with fail
  go_at_call 18
  refine (hG).mono ?_
  rintro e w1 ⟨rfl, rfl⟩
  go_wp2_with fail
  go_ret
  exact ⟨rfl, rfl⟩

/-- what bareiss.Of answers -/
def bareV (rows : List (List Int)) : Int := if sqErr rows 5 (-9) 9 = 0 then G (-1) rows.length (fn rows) else 0

end Go.Proofs.Ytkelnkcigbghkaa
