/- Contracts of bareiss.Check and bareiss.Of. -/
import Derived.Test.YtbicffgddheakaaBareiss
import Derived.Test.YtbicffgddheakaaGrounds
import Derived.Test.YtbicffgddheakaaPerm
namespace Go.Proofs.Ytbicffgddheakaa
open Go.RowKit
set_option linter.unusedVariables false
set_option linter.unusedSimpArgs false


/-- what bareiss.Of answers -/
def bareV (rows : List (List Int)) : Int := if sqErr rows 5 (-9) 9 = 0 then G (-1) rows.length (fn rows) else 0

theorem BareFn_any (a : Option Addr) (n cap : Nat) (rows : List (List Int)) (w : World) (hr : RowsAt w a n rows) (hcap : n ≤ cap) (hs : Small n rows) :
    Calls Try.prog 19 #[.slice a n cap] w fun e w' => e = .returned (.tuple #[.int .i64 (bareV rows), errV (sqErr rows 5 (-9) 9)]) ∧ Below w.heap.size w w' := by
  have hG := BCheck_any a n cap rows w hr hs
  by_cases he : sqErr rows 5 (-9) 9 = 0
  · have hsq := good_sq he
    have hent := good_ent (B := 9) (by omega) he
    have hl := hr.1
    obtain ⟨h1, h2, h3⟩ := sqErr_good he
    rw [hl] at hsq h2 h1
    have hv : G (-1) n (fn rows) = bareV rows := by unfold bareV; rw [if_pos he, hl]
    have hO := fun w (h : RowsAt w a n rows) => Bareiss_of n a cap rows w h1 (by omega) hcap hsq hent h
    rw [hv] at hO
    rw [he] at hG ⊢
    rw [show errV 0 = .nilIface from rfl] at hG ⊢
    generalize bareV rows = v at *
    have HR := Lib.hid hr
    clear hs hsq h3 hv he hr hent
    go_enter Try.func19, Try.ntmps19
    go_wp2_with fail
    go_at_call 30
    refine (hG).mono ?_
    rintro e w1 ⟨rfl, rfl⟩
    go_wp2_with fail
    go_at_call 31
    refine (hO _ HR.out).mono ?_
    rintro e w1 ⟨rfl, hb⟩
    go_wp2_with fail
    go_ret2
    exact ⟨rfl, hb⟩
  · have hv : bareV rows = 0 := by unfold bareV; rw [if_neg he]
    have hE : errV (sqErr rows 5 (-9) 9) = .iface 48 (.int .i64 (sqErr rows 5 (-9) 9)) := by unfold errV; rw [if_neg he]
    rw [hv]
    rw [hE] at hG ⊢
    generalize sqErr rows 5 (-9) 9 = e at *
    clear hs hE he hv
    go_enter Try.func19, Try.ntmps19
    go_wp2_with fail
    go_at_call 30
    refine (hG).mono ?_
    rintro e w1 ⟨rfl, rfl⟩
    go_wp2_with fail
    go_ret2
    exact ⟨rfl, Below.refl _ _⟩
end Go.Proofs.Ytbicffgddheakaa
