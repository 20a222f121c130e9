/- Contract of the reference's Det. -/
import Derived.Test.YtijlhdgagaehaaaDoorWithout
import Derived.Test.YtijlhdgagaehaaaDoorBnd
import Derived.Test.YtijlhdgagaehaaaDoorDetMath
import Derived.Deep.LoopGhost
import Derived.Deep.RegionHeld3
namespace Go.Proofs.YtijlhdgagaehaaaDoor
open Go.RowKit
set_option linter.unusedVariables false
set_option linter.unusedSimpArgs false

/-- one term of the sum, done -/
theorem rdet_step (n k : Nat) (m : List (List Int)) (hx : (m.getD 0 []).getD k 0 = 0) :
    sumTo (fun j => sgn j * (m.getD 0 []).getD j 0 * detN n (cut m 0 j)) (k + 1) = sumTo (fun j => sgn j * (m.getD 0 []).getD j 0 * detN n (cut m 0 j)) k := by
  rw [sumTo]
  simp only [hx]
  simp

/-- Without, as it stands here -/
theorem Without_sq (a : Option Addr) (n cap k : Nat) (rows : List (List Int)) (w : World) (hr : RowsAt w a (n + 1) rows) (hn : n + 1 ≤ 1000) (hcap : n + 1 ≤ cap) (hs : Sq (n + 1) rows) (hk : k < n + 1) :
    Calls Tryd.prog 31 #[.slice a (n + 1) cap, .int .i64 0, .int .i64 k] w fun e w' => ∃ a' cap', e = .returned (.slice a' n cap') ∧ n ≤ cap' ∧ RowsAt w' a' n (cut rows 0 k) ∧ Below w.heap.size w w' := by
  refine (Without_any a (n + 1) (n + 1) cap rows 0 k w hr hn hn hcap hs.2 (by omega) (by omega)).mono ?_
  rintro e w1 ⟨⟨vw, rfl, hvw⟩, hb1⟩
  obtain ⟨a', cap', rfl, h1, h2, h3⟩ := hvw.rowsAt
  have hc := (hs.cut (show 0 < n + 1 by omega) hk).1
  simp only [Int.toNat_natCast, show (0 : Int).toNat = 0 from rfl] at h1 h3 ⊢
  rw [hc] at h1 h3 ⊢
  exact ⟨a', cap', rfl, h1, h3, hb1⟩

set_option maxHeartbeats 1000000 in
theorem RDet_any (n : Nat) : ∀ (a : Option Addr) (cap : Nat) (rows : List (List Int)) (w : World), n ≤ 1000 → n ≤ cap → Sq n rows → RowsAt w a n rows →
    Calls Tryd.prog 15 #[.slice a n cap] w fun e w' => e = .returned (.int .i64 (wrap64 (detN n rows))) ∧ Below w.heap.size w w' := by
  induction n with
  | zero =>
    intro a cap rows w hn hcap hsq hr
    go_enter Tryd.func15, Tryd.ntmps15
    go_wp2_with fail
    go_ret
    exact ⟨ret_int (by rw [detN, wrap_in (by omega) (by omega)]), Below.refl _ _⟩
  | succ n ih =>
    intro a cap rows w hn hcap hsq hr
    obtain ⟨b, off, rfl, hb⟩ := hr.some (by omega)
    obtain ⟨ra, rc, hc0, hrc, hrm, _, hrow⟩ := hr.row (i := 0) (by omega)
    have hlen0 := hsq.2 0 (by omega)
    rw [hlen0] at hc0 hrc hrow
    obtain ⟨b0, off0, rfl, hb0, hcells⟩ := hrow.some (by omega)
    obtain ⟨row, hrw⟩ : ∃ r, r = rows.getD 0 [] := ⟨_, rfl⟩
    have HSQ := Lib.hid hsq
    have HR := Lib.hid hr
    have HRW := Lib.hid hrw
    have IH := Lib.hid ih
    have hcell : ∀ i, i < n + 1 → w.cell? ⟨b0, off0 + i, none⟩ = some (.int .i64 (row.getD i 0)) := by rw [hrw]; exact hcells
    have HC := Lib.hid hcell
    rw [Nat.add_zero] at hc0
    have HC0 := Lib.hid hc0
    clear hsq hr hrw hrow hlen0 hcells ih hcell hc0
    go_enter Tryd.func15, Tryd.ntmps15
    go_wp2_with fail
    go_loopg [3, 4, 5] (n + 1) (fun g s t i wr => ∃ k : Nat, k ≤ n + 1 ∧ n + 1 - k ≤ g ∧ s = .int .i64 (wrap64 (sumTo (fun j => sgn j * (rows.getD 0 []).getD j 0 * detN n (cut rows 0 j)) k)) ∧ t = .int .i64 (sgn k) ∧ i = .int .i64 k ∧ Below w.heap.size w wr)
    case atStart => exact ⟨0, by omega, by omega, by rw [sumTo, wrap_in (by omega) (by omega)], rfl, rfl, Below.refl _ _⟩
    case round =>
      obtain ⟨k, hk, hg, rfl, rfl, rfl, hbel⟩ := hrel
      by_cases hlt : k < n + 1
      · obtain ⟨x, hx⟩ : ∃ x, x = row.getD k 0 := ⟨_, rfl⟩
        have hS : ∀ W, Below w.heap.size w W → W.cell? ⟨b, off, none⟩ = some (.slice (some ⟨b0, off0, none⟩) (n + 1) rc) ∧ W.cell? ⟨b0, off0 + k, none⟩ = some (.int .i64 x) := fun W h =>
          ⟨by rw [h.cell (p := ⟨b, off, none⟩) hb]; exact HC0.out, by rw [h.cell (p := ⟨b0, off0 + k, none⟩) hb0, hx]; exact HC.out k hlt⟩
        obtain ⟨hs1', hs2'⟩ := hS wr hbel
        have HSS := Lib.hid hS
        have HX := Lib.hid hx
        clear hx hS
        obtain ⟨hs1, hs2⟩ := sgn_bd k
        obtain ⟨P, hP⟩ : ∃ P, P = sumTo (fun j => sgn j * (rows.getD 0 []).getD j 0 * detN n (cut rows 0 j)) k := ⟨_, rfl⟩
        rw [← hP]
        obtain ⟨sg, hsg⟩ : ∃ s, s = sgn k := ⟨_, rfl⟩
        rw [← hsg] at hs1 hs2 ⊢
        have HPP := Lib.hid hP
        have HSG := Lib.hid hsg
        clear hP hsg
        have hk0 : (0 : Int) ≤ k := by omega
        have hk1 : (k : Int) < (n : Int) + 1 := by omega
        have hn0 : (0 : Int) < (n : Int) + 1 := by omega
        by_cases hx0 : x = 0
        · have hxb : (x != 0) = false := by simp [hx0]
          have HX0 := Lib.hid hx0
          clear hx0
          go_wp2_with fail
          go_roundg (n + 1 - (k + 1))
          case measure => omega
          case rel => exact ⟨k + 1, by omega, by omega, by rw [HPP.out, rdet_step n k rows (by rw [← HRW.out, ← HX.out]; exact HX0.out)], by rw [sgn_succ, ← HSG.out], by go_num, hbel⟩
        · have hxb : (x != 0) = true := by simp [hx0]
          clear hx0
          have HB := Lib.hid hbel
          have hsq' := HSQ.out.cut (show 0 < n + 1 by omega) hlt
          have HSQ' := Lib.hid hsq'
          clear hbel hsq'
          go_wp2_with fail
          go_region_held3 (fun w' => w'.cell? ⟨b, off, none⟩ = some (.slice (some ⟨b0, off0, none⟩) (n + 1) rc) ∧ w'.cell? ⟨b0, off0 + k, none⟩ = some (.int .i64 x)) (first | exact HSS.out _ (HB.out.trans Cls.start) | exact HSS.out _ (below_trans (HB.out.trans Cls.start) hb1) | exact HSS.out _ (below_trans (below_trans (HB.out.trans Cls.start) hb1) hb2))
            (first
              | (go_at_call 31; refine (Without_sq _ n _ k rows _ (HR.out.call (HB.out.trans Cls.start)) (by omega) hcap HSQ.out hlt).mono ?_; rintro e w1 ⟨a', cap', rfl, h1, h3, hb1⟩)
              | (go_at_call 15; refine (IH.out _ _ _ _ (by omega) h1 HSQ'.out h3).mono ?_; rintro e w2 ⟨rfl, hb2⟩))
          have hb3 := below_trans (below_trans (HB.out.trans Cls.start) hb1) hb2
          clear hb1 hb2 hs1' hs2'
          go_wp2_with fail
          go_roundg (n + 1 - (k + 1))
          case measure => omega
          case rel => exact ⟨k + 1, by omega, by omega, by simp only [IntWalk.i64_left]; rw [wrap_term, HPP.out, HX.out, HRW.out, HSG.out, sumTo], by rw [sgn_succ, ← HSG.out], by go_num, hb3⟩
      · obtain rfl : k = n + 1 := by omega
        go_wp2_with fail
        go_ret
        exact ⟨rfl, hbel⟩
end Go.Proofs.YtijlhdgagaehaaaDoor
