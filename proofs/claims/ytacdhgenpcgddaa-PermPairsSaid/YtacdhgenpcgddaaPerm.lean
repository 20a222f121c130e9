/- Contracts of package perm: Check, Of. -/
import Derived.Test.YtacdhgenpcgddaaPermOf
import Derived.Test.YtacdhgenpcgddaaGrounds
namespace Go.Proofs.Ytacdhgenpcgddaa
open Go.RowKit
set_option linter.unusedVariables false
set_option linter.unusedSimpArgs false


theorem BCheck_any (a : Option Addr) (n cap : Nat) (rows : List (List Int)) (w : World) (hr : RowsAt w a n rows) (hs : Small n rows) :
    Calls Try.prog 14 #[.slice a n cap] w fun e w' => e = .returned (errV (sqErr rows 5 (-9) 9)) ∧ w = w' := by
  have hG := Square_any a n cap rows 5 (-9) 9 w hr (by omega) (by omega) hs.1 hs.2
  have HS := Lib.hid hs
  clear hs
  go_enter Try.func14, Try.ntmps14
  go_wp2_with fail
  go_at_call 17
  refine (hG).mono ?_
  rintro e w1 ⟨rfl, rfl⟩
  go_wp2_with fail
  go_ret
  exact ⟨rfl, rfl⟩

theorem PermCheck_any (a : Option Addr) (n cap : Nat) (rows : List (List Int)) (w : World) (hr : RowsAt w a n rows) (hs : Small n rows) :
    Calls Try.prog 10 #[.slice a n cap] w fun e w' => e = .returned (errV (sqErr rows 5 (-9) 9)) ∧ w = w' := by
  have hG := BCheck_any a n cap rows w hr hs
  have HS := Lib.hid hs
  clear hs
  go_enter Try.func10, Try.ntmps10
  go_wp2_with fail
  go_at_call 14
  refine (hG).mono ?_
  rintro e w1 ⟨rfl, rfl⟩
  go_wp2_with fail
  go_ret
  exact ⟨rfl, rfl⟩

/-- what perm.Of answers -/
def permV (rows : List (List Int)) : Int := if sqErr rows 5 (-9) 9 = 0 then permN rows.length rows else 0

theorem bnd9 {n : Nat} (h : n ≤ 5) : bnd 9 n ≤ 7085880 ∧ 0 ≤ bnd 9 n := by
  match n, h with
  | 0, _ => decide
  | 1, _ => decide
  | 2, _ => decide
  | 3, _ => decide
  | 4, _ => decide
  | 5, _ => decide

theorem permV_bd (rows : List (List Int)) : -7085880 ≤ permV rows ∧ permV rows ≤ 7085880 := by
  unfold permV
  split
  · rename_i h
    obtain ⟨h1, h2, h3⟩ := sqErr_good h
    have := permN_bd rows.length (good_ent (by omega) h)
    have := bnd9 (n := rows.length) (by omega)
    omega
  · omega

theorem PermFn_any (a : Option Addr) (n cap : Nat) (rows : List (List Int)) (w : World) (hr : RowsAt w a n rows) (hcap : n ≤ cap) (hs : Small n rows) :
    Calls Try.prog 9 #[.slice a n cap] w fun e w' => e = .returned (.tuple #[.int .i64 (permV rows), errV (sqErr rows 5 (-9) 9)]) ∧ Below w.heap.size w w' := by
  have hG := PermCheck_any a n cap rows w hr hs
  have hbd := permV_bd rows
  by_cases he : sqErr rows 5 (-9) 9 = 0
  · have hsq := good_sq he
    have hl := hr.1
    obtain ⟨h1, h2, h3⟩ := sqErr_good he
    rw [hl] at hsq h2
    have hv : wrap64 (permN n rows) = permV rows := by
      unfold permV at hbd ⊢
      rw [if_pos he, hl] at hbd ⊢
      exact wrap_in (by omega) (by omega)
    have hO := fun w (h : RowsAt w a n rows) => Perm_of_any n a cap rows w (by omega) hcap hsq h
    rw [hv] at hO
    rw [he] at hG ⊢
    rw [show errV 0 = .nilIface from rfl] at hG ⊢
    generalize permV rows = v at *
    have HS := Lib.hid hs
    have HR := Lib.hid hr
    clear hs hsq h3 hv he hr
    go_enter Try.func9, Try.ntmps9
    go_wp2_with fail
    go_at_call 10
    refine (hG).mono ?_
    rintro e w1 ⟨rfl, rfl⟩
    go_wp2_with fail
    go_at_call 13
    refine (hO _ HR.out).mono ?_
    rintro e w1 ⟨rfl, hb⟩
    go_wp2_with fail
    go_ret2
    exact ⟨rfl, hb⟩
  · have hv : permV rows = 0 := by unfold permV; rw [if_neg he]
    have hE : errV (sqErr rows 5 (-9) 9) = .iface 43 (.int .i64 (sqErr rows 5 (-9) 9)) := by unfold errV; rw [if_neg he]
    rw [hv]
    rw [hE] at hG ⊢
    generalize sqErr rows 5 (-9) 9 = e at *
    have HS := Lib.hid hs
    clear hs hE he hv hbd
    go_enter Try.func9, Try.ntmps9
    go_wp2_with fail
    go_at_call 10
    refine (hG).mono ?_
    rintro e w1 ⟨rfl, rfl⟩
    go_wp2_with fail
    go_ret2
    exact ⟨rfl, Below.refl _ _⟩
end Go.Proofs.Ytacdhgenpcgddaa
