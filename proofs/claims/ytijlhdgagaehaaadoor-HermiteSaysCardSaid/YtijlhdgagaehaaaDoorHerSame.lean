/- Contracts of the reference's Rows, slices.Equal, slices.EqualFunc, hermite.Same, where the forms are the same. -/
import Derived.Test.YtijlhdgagaehaaaDoorHerFact
import Derived.Test.YtijlhdgagaehaaaDoorFirst
import Derived.Test.YtijlhdgagaehaaaDoorRMatrix
import Derived.Test.YtijlhdgagaehaaaDoorRDet
namespace Go.Proofs.YtijlhdgagaehaaaDoor
open Go.RowKit
set_option linter.unusedVariables false
set_option linter.unusedSimpArgs false

set_option maxRecDepth 100000 in
theorem HRows_any (a : Option Addr) (n cap : Nat) (rows : List (List Int)) (w : World) (hr : RowsAt w a n rows) (hcap : n ≤ cap) (hs : Small n rows) :
    Calls Tryd.prog 4 #[.slice a n cap] w fun e w' => e = .returned (.int .i64 (herErr rows)) ∧ Below w.heap.size w w' := by
  have hG := RSquare_any a n cap rows 3 (-20) 20 w hr (by omega) (by omega) hs.1 hs.2
  have hl := hr.1
  by_cases h1 : sqErr rows 3 (-20) 20 = 0
  · obtain ⟨k1, k2, k3⟩ := sqErr_good h1
    have hsq := good_sq h1
    have hent := good_ent (by omega) h1
    rw [hl] at hsq k1 k2
    have hb := det_bd20 (n := n) (by omega) hent
    have hD := Lib.hid (fun w (h : RowsAt w a n rows) => RDet_any n a cap rows w (by omega) hcap hsq h)
    rw [detN_G, wrap_in (by omega) (by omega)] at hD
    rw [h1] at hG
    have HR := Lib.hid hr
    have hv : herErr rows = if G (-1) n (fn rows) = 0 then 6 else 0 := by unfold herErr; rw [if_pos h1, hl]
    rw [hv]
    generalize G (-1) n (fn rows) = d at *
    by_cases hd : d = 0
    · subst hd
      rw [if_pos rfl]
      clear hr hs h1 k3 hv hsq hent hb hl
      go_enter Tryd.func4, Tryd.ntmps4
      go_wp2_with fail
      go_at_call 14
      refine (hG).mono ?_
      rintro e w1 ⟨rfl, hb1⟩
      go_wp2_with fail
      go_at_call 15
      refine (hD.out _ (HR.out.call hb1)).mono ?_
      rintro e w2 ⟨rfl, hb2⟩
      go_wp2_with fail
      go_ret
      exact ⟨rfl, below_trans hb1 hb2⟩
    · have hdb : (d == 0) = false := by simp [hd]
      rw [if_neg hd]
      clear hr hs h1 k3 hv hsq hent hb hl
      go_enter Tryd.func4, Tryd.ntmps4
      go_wp2_with fail
      go_at_call 14
      refine (hG).mono ?_
      rintro e w1 ⟨rfl, hb1⟩
      go_wp2_with fail
      go_at_call 15
      refine (hD.out _ (HR.out.call hb1)).mono ?_
      rintro e w2 ⟨rfl, hb2⟩
      go_wp2_with fail
      go_ret
      exact ⟨rfl, below_trans hb1 hb2⟩
  · have hv : herErr rows = sqErr rows 3 (-20) 20 := by unfold herErr; rw [if_neg h1]
    rw [hv]
    have h1b : (sqErr rows 3 (-20) 20 == 0) = false := by simp [h1]
    generalize sqErr rows 3 (-20) 20 = e at *
    clear hr hs hv hl
    go_enter Tryd.func4, Tryd.ntmps4
    go_wp2_with fail
    go_at_call 14
    refine (hG).mono ?_
    rintro e w1 ⟨rfl, hb1⟩
    go_wp2_with fail
    go_ret
    exact ⟨rfl, hb1⟩

set_option maxRecDepth 100000 in
set_option maxHeartbeats 1000000 in
theorem Equal_like (a b : Option Addr) (n cap cap' : Nat) (xs : List Int) (w : World) (ha : IntsAt w a n xs) (hb : IntsAt w b n xs) (hn : n ≤ 1000000) :
    Calls Tryd.prog 26 #[.slice a n cap, .slice b n cap'] w fun e w' => e = .returned (.bool true) ∧ Below w.heap.size w w' := by
  have HA := Lib.hid ha
  have HB := Lib.hid hb
  clear ha hb
  go_enter Tryd.func26, Tryd.ntmps26
  go_wp2_with fail
  go_loopg [13] (n + 1) (fun g i wr => ∃ k : Nat, k ≤ n ∧ n - k < g ∧ i = .int .i64 k ∧ Below w.heap.size w wr)
  case atStart => exact ⟨0, by omega, by omega, rfl, Below.refl _ _⟩
  case round =>
    obtain ⟨k, hk, hg, rfl, hbel⟩ := hrel
    by_cases hlt : k < n
    · obtain ⟨b1, o1, rfl, c1⟩ := (HA.out.call hbel).2 k hlt
      obtain ⟨b2, o2, rfl, c2⟩ := (HB.out.call hbel).2 k hlt
      have hk0 : (0 : Int) ≤ k := by omega
      have hk1 : (k : Int) < n := by omega
      generalize xs.getD k 0 = x at c1 c2
      have z1 := World.block_lt_of_cell? _ _ c1
      have z2 := World.block_lt_of_cell? _ _ c2
      dsimp only at z1 z2
      go_wp2_with fail
      refine wp_region_quiet (C := Cls wr.heap.size wr) (by kernel_rfl) (by kernel_rfl) Cls.start ?_
      repeat
        (refine wpQuiet_step (fun K hK => ?_)
         go_simp
         first
           | (refine hK _ ?_; clear hK K)
           | (apply Exists.intro
              refine ⟨fun w' hC => ?_, hK _ ?_⟩
              · (obtain ⟨hr, hr2⟩ := hC.rules
                 first
                   | (fail)
                   | (go_simp; done)
                   | (go_simp; rfl))
              clear hK K))
      refine wpQuiet_nil ?_
      intro w2 hw2
      have hB2 := below_trans hbel hw2
      go_wp2_with fail
      go_roundg (n - k)
      case measure => omega
      case rel => exact ⟨k + 1, by omega, by omega, by go_num, hB2⟩
    · obtain rfl : k = n := by omega
      go_wp2_with fail
      go_ret
      exact ⟨rfl, hbel⟩

set_option maxRecDepth 100000 in
set_option maxHeartbeats 1000000 in
theorem EqualFunc_like (a b : Option Addr) (n cap cap' : Nat) (rows : List (List Int)) (w : World) (ha : RowsAt w a n rows) (hb : RowsAt w b n rows) (hn : n ≤ 1000000) (hw : ∀ k, k < n → (rows.getD k []).length ≤ 1000000) :
    Calls Tryd.prog 25 #[.slice a n cap, .slice b n cap', .func (.func 26) #[] #[]] w fun e w' => e = .returned (.bool true) ∧ Below w.heap.size w w' := by
  have HA := Lib.hid ha
  have HB := Lib.hid hb
  have HW := Lib.hid hw
  clear ha hb hw
  go_enter Tryd.func25, Tryd.ntmps25
  go_wp2_with fail
  go_loopg [17] (n + 1) (fun g i wr => ∃ k : Nat, k ≤ n ∧ n - k < g ∧ i = .int .i64 k ∧ Below w.heap.size w wr)
  case atStart => exact ⟨0, by omega, by omega, rfl, Below.refl _ _⟩
  case round =>
    obtain ⟨k, hk, hg, rfl, hbel⟩ := hrel
    by_cases hlt : k < n
    · obtain ⟨b1, o1, ra, rc, rfl, c1, e1, e2, e3, e4⟩ := (HA.out.call hbel).2 k hlt
      obtain ⟨b2, o2, ra2, rc2, rfl, c2, e1', e2', e3', e4'⟩ := (HB.out.call hbel).2 k hlt
      have hwk := HW.out k hlt
      have hk0 : (0 : Int) ≤ k := by omega
      have hk1 : (k : Int) < n := by omega
      generalize rows.getD k [] = row at *
      obtain ⟨M, hM⟩ : ∃ M, M = row.length := ⟨_, rfl⟩
      rw [← hM] at c1 c2 e1 e1' e4 e4' hwk
      have HI := Lib.hid (Equal_like ra ra2 M rc rc2 row wr e4 e4' hwk)
      clear e1 e2 e3 e4 e1' e2' e3' e4' hM
      go_wp2_with fail
      go_at_call 26
      refine HI.out.mono ?_
      rintro e w2 ⟨rfl, hb2⟩
      have hB2 := below_trans hbel hb2
      go_wp2_with fail
      go_roundg (n - k)
      case measure => omega
      case rel => exact ⟨k + 1, by omega, by omega, by go_num, hB2⟩
    · obtain rfl : k = n := by omega
      go_wp2_with fail
      go_ret
      exact ⟨rfl, hbel⟩

set_option maxRecDepth 100000 in
set_option maxHeartbeats 1000000 in
/-- rows with the same sums -/
theorem Same_good (a b : Option Addr) (n cap cap' : Nat) (rows next : List (List Int)) (w : World) (hr : RowsAt w a n rows) (hr' : RowsAt w b n next) (hcap : n ≤ cap) (hcap' : n ≤ cap') (hs : Small n rows) (hs' : Small n next) (he : herErr rows = 0) (he' : herErr next = 0)
    (hl : ∀ x, Lat n (fn rows) x ↔ Lat n (fn next) x) :
    Calls Tryd.prog 11 #[.slice a n cap, .slice b n cap'] w fun e w' => e = .returned (.tuple #[.bool true, .nilIface]) ∧ Below w.heap.size w w' := by
  have hk := herErr_good hr.1 he
  have hk' := herErr_good hr'.1 he'
  have hC := Lib.hid (fun W (h : RowsAt W a n rows) => HCheck_any a n cap rows W h hcap hs)
  have hC' := Lib.hid (fun W (h : RowsAt W b n next) => HCheck_any b n cap' next W h hcap' hs')
  rw [he, errV_zero] at hC
  rw [he', errV_zero] at hC'
  have hF := Lib.hid (fun W (h : RowsAt W a n rows) => Form_of n a cap rows W hk.pos hk.le hcap hk.sq (fun a b _ _ => hk.ent a b) hk.det h)
  have hF' := Lib.hid (fun W (h : RowsAt W b n next) => Form_of n b cap' next W hk'.pos hk'.le hcap' hk'.sq (fun a b _ _ => hk'.ent a b) hk'.det h)
  have HR := Lib.hid hr
  have HR' := Lib.hid hr'
  have HL := Lib.hid hl
  have hn3 := hk.le
  clear hr hr' hs hs' he he' hk hk' hl
  go_enter Tryd.func11, Tryd.ntmps11
  go_wp2_with fail
  go_at_call 6
  refine (hC.out _ HR.out).mono ?_
  rintro e w1 ⟨rfl, hb1⟩
  go_wp2_with fail
  go_at_call 6
  refine (hC'.out _ (HR'.out.call hb1)).mono ?_
  rintro e w2 ⟨rfl, hb2⟩
  have hB2 := below_trans hb1 hb2
  clear hb1 hb2
  go_wp2_with fail
  go_at_call 24
  refine (First_two _ 0 0 _ (by rw [errV_zero]; go_simp) (by rw [errV_zero]; go_simp)).mono ?_
  rintro e w3 ⟨rfl, rfl⟩
  have hB3 := hB2.alloc hB2.size (.cells #[.nilIface, .nilIface] 27)
  have HB3 := Lib.hid hB3
  rw [show errV (if (0 : Int) ≠ 0 then 0 else 0) = .nilIface from rfl]
  clear hB3
  go_wp2_with fail
  go_at_call 22
  refine (hF.out _ (HR.out.call HB3.out)).mono ?_
  rintro e w4 ⟨⟨G1, vs1, T1, rfl, h11, h12, h13⟩, hb4⟩
  have hB4 := below_trans HB3.out hb4
  have hra1 := h11.read
  rw [h12.1] at hra1
  have H1 := Lib.hid hra1
  clear h11 hb4
  go_wp2_with fail
  go_at_call 22
  refine (hF'.out _ (HR'.out.call hB4)).mono ?_
  rintro e w5 ⟨⟨G2, vs2, T2, rfl, h21, h22, h23⟩, hb5⟩
  have hB5 := below_trans hB4 hb5
  have hra2 := h21.read
  rw [h22.1] at hra2
  obtain rfl : T1 = T2 := sq_ext h12 h22 (h13.one h23 HL.out)
  have H12 := Lib.hid h12
  have HE := Lib.hid (EqualFunc_like (some ⟨G1, 0, none⟩) (some ⟨G2, 0, none⟩) n n n T1 w5 (H1.out.call hb5) hra2 (by omega) (fun k hk => by rw [h12.2 k hk]; omega))
  clear h21 h12 h13 h22 h23 hb5 hra1 hra2
  go_wp2_with fail
  go_at_call 25
  refine HE.out.mono ?_
  rintro e w6 ⟨rfl, hb6⟩
  go_wp2_with fail
  go_ret2
  exact ⟨rfl, below_trans hB5 hb6⟩
end Go.Proofs.YtijlhdgagaehaaaDoor
