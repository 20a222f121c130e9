/- Contracts of package hermite: Check, Form. -/
import Derived.Test.YtijlhdgagaehaaaDoorAlg
import Derived.Test.YtijlhdgagaehaaaDoorGrounds
import Derived.Test.YtijlhdgagaehaaaDoorDet
import Derived.Test.YtijlhdgagaehaaaDoorBnd
namespace Go.Proofs.YtijlhdgagaehaaaDoor
open Go.RowKit
set_option linter.unusedVariables false
set_option linter.unusedSimpArgs false

/-- what is wrong with rows -/
def herErr (rows : List (List Int)) : Int := if sqErr rows 3 (-20) 20 = 0 then (if G (-1) rows.length (fn rows) = 0 then 6 else 0) else sqErr rows 3 (-20) 20
theorem bnd20 {n : Nat} (h : n ≤ 3) : bnd 20 n ≤ 48000 ∧ 0 ≤ bnd 20 n := by
  match n, h with
  | 0, _ => decide
  | 1, _ => decide
  | 2, _ => decide
  | 3, _ => decide
/-- what is known of rows that are right -/
structure HerOk (n : Nat) (rows : List (List Int)) : Prop where
  len : rows.length = n
  pos : 0 < n
  le : n ≤ 3
  sq : Sq n rows
  ent : ∀ a b, (fn rows a b).natAbs ≤ 20
  det : G (-1) n (fn rows) ≠ 0
  bd : -48000 ≤ G (-1) n (fn rows) ∧ G (-1) n (fn rows) ≤ 48000
theorem det_bd20 {n : Nat} {rows : List (List Int)} (hn : n ≤ 3) (h : Ent 20 rows) : -48000 ≤ G (-1) n (fn rows) ∧ G (-1) n (fn rows) ≤ 48000 := by
  have h1 := detN_bd n h
  have h2 := bnd20 hn
  rw [detN_G] at h1
  omega
theorem herErr_good {n : Nat} {rows : List (List Int)} (hl : rows.length = n) (h : herErr rows = 0) : HerOk n rows := by
  unfold herErr at h
  by_cases h1 : sqErr rows 3 (-20) 20 = 0
  · rw [if_pos h1, hl] at h
    by_cases h2 : G (-1) n (fn rows) = 0
    · rw [if_pos h2] at h; cases h
    · obtain ⟨k1, k2, k3⟩ := sqErr_good h1
      have hsq := good_sq h1
      have hent := good_ent (by omega) h1
      rw [hl] at hsq k1 k2
      exact ⟨hl, k1, by omega, hsq, fun a b => by have : -20 ≤ fn rows a b ∧ fn rows a b ≤ 20 := hent a b; omega, h2, det_bd20 (by omega) hent⟩
  · rw [if_neg h1] at h; exact absurd h h1

theorem HCheck_any (a : Option Addr) (n cap : Nat) (rows : List (List Int)) (w : World) (hr : RowsAt w a n rows) (hcap : n ≤ cap) (hs : Small n rows) :
    Calls Tryd.prog 6 #[.slice a n cap] w fun e w' => e = .returned (errV (herErr rows)) ∧ Below w.heap.size w w' := by
  have hG := Square_any a n cap rows 3 (-20) 20 w hr (by omega) (by omega) hs.1 hs.2
  have hl := hr.1
  by_cases h1 : sqErr rows 3 (-20) 20 = 0
  · obtain ⟨k1, k2, k3⟩ := sqErr_good h1
    have hsq := good_sq h1
    have hent := good_ent (by omega) h1
    rw [hl] at hsq k1 k2
    have hb := det_bd20 (n := n) (by omega) hent
    have hD := Det_any n a cap rows w (by omega) hcap hsq hr
    rw [detN_G, wrap_in (by omega) (by omega)] at hD
    rw [h1, errV_zero] at hG
    have hv : herErr rows = if G (-1) n (fn rows) = 0 then 6 else 0 := by unfold herErr; rw [if_pos h1, hl]
    rw [hv]
    generalize G (-1) n (fn rows) = d at *
    by_cases hd : d = 0
    · subst hd
      rw [if_pos rfl, errV_pos (by decide)]
      clear hr hs h1 k3 hv hsq hent hb hl
      go_enter Tryd.func6, Tryd.ntmps6
      go_wp2_with fail
      go_at_call 17
      refine (hG).mono ?_
      rintro e w1 ⟨rfl, rfl⟩
      go_wp2_with fail
      go_at_call 18
      refine (hD).mono ?_
      rintro e w1 ⟨rfl, hb1⟩
      go_wp2_with fail
      go_ret
      exact ⟨rfl, hb1⟩
    · have hdb : (d == 0) = false := by simp [hd]
      rw [if_neg hd, errV_zero]
      clear hr hs h1 k3 hv hsq hent hb hl
      go_enter Tryd.func6, Tryd.ntmps6
      go_wp2_with fail
      go_at_call 17
      refine (hG).mono ?_
      rintro e w1 ⟨rfl, rfl⟩
      go_wp2_with fail
      go_at_call 18
      refine (hD).mono ?_
      rintro e w1 ⟨rfl, hb1⟩
      go_wp2_with fail
      go_ret
      exact ⟨rfl, hb1⟩
  · have hv : herErr rows = sqErr rows 3 (-20) 20 := by unfold herErr; rw [if_neg h1]
    rw [hv]
    rw [errV_pos h1] at hG ⊢
    generalize sqErr rows 3 (-20) 20 = e at *
    clear hr hs h1 hv hl
    go_enter Tryd.func6, Tryd.ntmps6
    go_wp2_with fail
    go_at_call 17
    refine (hG).mono ?_
    rintro e w1 ⟨rfl, rfl⟩
    go_wp2_with fail
    go_ret
    exact ⟨rfl, Below.refl _ _⟩
end Go.Proofs.YtijlhdgagaehaaaDoor
