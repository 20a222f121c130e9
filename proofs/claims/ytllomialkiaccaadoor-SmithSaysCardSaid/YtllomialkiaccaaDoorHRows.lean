/- Contract of the reference's Rows. -/
import Derived.Test.YtllomialkiaccaaDoorHerCheck
import Derived.Test.YtllomialkiaccaaDoorRMatrix
import Derived.Test.YtllomialkiaccaaDoorRDet
namespace Go.Proofs.YtllomialkiaccaaDoor
open Go.RowKit
set_option linter.unusedVariables false
set_option linter.unusedSimpArgs false

theorem HRows_any (a : Option Addr) (n cap : Nat) (rows : List (List Int)) (w : World) (hr : RowsAt w a n rows) (hcap : n ≤ cap) (hs : Small n rows) :
    Calls Tryd.prog 4 #[.slice a n cap] w fun e w' => e = .returned (.int .i64 (herErr rows)) ∧ Below w.heap.size w w' := by
  have hG := RSquare_any a n cap rows 3 (-20) 20 w hr (by omega) (by omega) hs.1 hs.2
  have hl := hr.1
  by_cases h1 : sqErr rows 3 (-20) 20 = 0
  · obtain ⟨k1, k2, k3⟩ := sqErr_good h1
    have hsq := good_sq h1
    have hent := good_ent (by omega) h1
    rw [hl] at hsq k1 k2
    have hb := det_bd20 (n := n) (by omega) hent
    have hD := Lib.hid (fun w (h : RowsAt w a n rows) => RDet_any n a cap rows w (by omega) hcap hsq h)
    rw [detN_G, wrap_in (by omega) (by omega)] at hD
    rw [h1] at hG
    have HR := Lib.hid hr
    have hv : herErr rows = if G (-1) n (fn rows) = 0 then 6 else 0 := by unfold herErr; rw [if_pos h1, hl]
    rw [hv]
    generalize G (-1) n (fn rows) = d at *
    by_cases hd : d = 0
    · subst hd
      rw [if_pos rfl]
      clear hr hs h1 k3 hv hsq hent hb hl
      go_enter Tryd.func4, Tryd.ntmps4
      go_wp2_with fail
      go_at_call 12
      refine (hG).mono ?_
      rintro e w1 ⟨rfl, hb1⟩
      go_wp2_with fail
      go_at_call 7
      refine (hD.out _ (HR.out.call hb1)).mono ?_
      rintro e w2 ⟨rfl, hb2⟩
      go_wp2_with fail
      go_ret
      exact ⟨rfl, below_trans hb1 hb2⟩
    · have hdb : (d == 0) = false := by simp [hd]
      rw [if_neg hd]
      clear hr hs h1 k3 hv hsq hent hb hl
      go_enter Tryd.func4, Tryd.ntmps4
      go_wp2_with fail
      go_at_call 12
      refine (hG).mono ?_
      rintro e w1 ⟨rfl, hb1⟩
      go_wp2_with fail
      go_at_call 7
      refine (hD.out _ (HR.out.call hb1)).mono ?_
      rintro e w2 ⟨rfl, hb2⟩
      go_wp2_with fail
      go_ret
      exact ⟨rfl, below_trans hb1 hb2⟩
  · have hv : herErr rows = sqErr rows 3 (-20) 20 := by unfold herErr; rw [if_neg h1]
    rw [hv]
    have h1b : (sqErr rows 3 (-20) 20 == 0) = false := by simp [h1]
    generalize sqErr rows 3 (-20) 20 = e at *
    clear hr hs hv hl
    go_enter Tryd.func4, Tryd.ntmps4
    go_wp2_with fail
    go_at_call 12
    refine (hG).mono ?_
    rintro e w1 ⟨rfl, hb1⟩
    go_wp2_with fail
    go_ret
    exact ⟨rfl, hb1⟩
end Go.Proofs.YtllomialkiaccaaDoor
