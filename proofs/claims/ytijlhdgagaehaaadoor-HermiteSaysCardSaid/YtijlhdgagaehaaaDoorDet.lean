/- Contract of num.Det. -/
import Derived.Test.YtijlhdgagaehaaaDoorCutCall
namespace Go.Proofs.YtijlhdgagaehaaaDoor
open Go.RowKit
set_option linter.unusedVariables false
set_option linter.unusedSimpArgs false

/-- one term of the sum, done -/
theorem det_step (n k : Nat) (m : List (List Int)) (hx : (m.getD 0 []).getD k 0 = 0) :
    sumTo (fun j => sgn j * (m.getD 0 []).getD j 0 * detN n (cut m 0 j)) (k + 1) = sumTo (fun j => sgn j * (m.getD 0 []).getD j 0 * detN n (cut m 0 j)) k := by
  rw [sumTo]
  simp only [hx]
  simp

set_option maxHeartbeats 1000000 in
theorem Det_any (n : Nat) : ∀ (a : Option Addr) (cap : Nat) (rows : List (List Int)) (w : World), n ≤ 1000 → n ≤ cap → Sq n rows → RowsAt w a n rows →
    Calls Tryd.prog 18 #[.slice a n cap] w fun e w' => e = .returned (.int .i64 (wrap64 (detN n rows))) ∧ Below w.heap.size w w' := by
  induction n with
  | zero =>
    intro a cap rows w hn hcap hsq hr
    go_enter Tryd.func18, Tryd.ntmps18
    go_wp2_with fail
    go_ret
    exact ⟨ret_int (by rw [detN, wrap_in (by omega) (by omega)]), Below.refl _ _⟩
  | succ n ih =>
    intro a cap rows w hn hcap hsq hr
    obtain ⟨b, off, rfl, hb⟩ := hr.some (by omega)
    obtain ⟨ra, rc, hc0, hrc, hrm, _, hrow⟩ := hr.row (i := 0) (by omega)
    have hlen0 := hsq.2 0 (by omega)
    rw [hlen0] at hc0 hrc hrow
    obtain ⟨b0, off0, rfl, hb0, hcells⟩ := hrow.some (by omega)
    obtain ⟨row, hrw⟩ : ∃ r, r = rows.getD 0 [] := ⟨_, rfl⟩
    have HSQ := Lib.hid hsq
    have HR := Lib.hid hr
    have HRW := Lib.hid hrw
    have IH := Lib.hid ih
    have hcell : ∀ i, i < n + 1 → w.cell? ⟨b0, off0 + i, none⟩ = some (.int .i64 (row.getD i 0)) := by rw [hrw]; exact hcells
    have HC := Lib.hid hcell
    clear hsq hr hrw hrow hlen0 hcells ih hcell
    rw [Nat.add_zero] at hc0
    go_enter Tryd.func18, Tryd.ntmps18
    go_wp2_with fail
    go_loopg [3, 4, 14] (n + 1) (fun g s t i wr => ∃ k : Nat, k ≤ n + 1 ∧ n + 1 - k ≤ g ∧ s = .int .i64 (wrap64 (sumTo (fun j => sgn j * (rows.getD 0 []).getD j 0 * detN n (cut rows 0 j)) k)) ∧ t = .int .i64 (sgn k) ∧ i = .int .i64 k ∧ Below w.heap.size w wr)
    case atStart => exact ⟨0, by omega, by omega, by rw [sumTo, wrap_in (by omega) (by omega)], rfl, rfl, Below.refl _ _⟩
    case round =>
      obtain ⟨k, hk, hg, rfl, rfl, rfl, hbel⟩ := hrel
      by_cases hlt : k < n + 1
      · obtain ⟨x, hx⟩ : ∃ x, x = row.getD k 0 := ⟨_, rfl⟩
        have hcx : wr.cell? ⟨b0, off0 + k, none⟩ = some (.int .i64 x) := by rw [hbel.cell (p := ⟨b0, off0 + k, none⟩) hb0, hx]; exact HC.out k hlt
        have HX := Lib.hid hx
        clear hx
        obtain ⟨hs1, hs2⟩ := sgn_bd k
        obtain ⟨P, hP⟩ : ∃ P, P = sumTo (fun j => sgn j * (rows.getD 0 []).getD j 0 * detN n (cut rows 0 j)) k := ⟨_, rfl⟩
        rw [← hP]
        obtain ⟨sg, hsg⟩ : ∃ s, s = sgn k := ⟨_, rfl⟩
        rw [← hsg] at hs1 hs2 ⊢
        have HPP := Lib.hid hP
        have HSG := Lib.hid hsg
        clear hP hsg
        by_cases hx0 : x = 0
        · have hxb : (x != 0) = false := by simp [hx0]
          have HX0 := Lib.hid hx0
          clear hx0
          go_wp2_with fail
          go_roundg (n + 1 - (k + 1))
          case measure => omega
          case rel => exact ⟨k + 1, by omega, by omega, by rw [HPP.out, det_step n k rows (by rw [← HRW.out, ← HX.out]; exact HX0.out)], by rw [sgn_succ, ← HSG.out], by go_num, hbel⟩
        · have hxb : (x != 0) = true := by simp [hx0]
          clear hx0
          go_wp2_with fail
          go_at_call 34
          refine (Cut_call _ (n + 1) _ rows 0 _ _ (HR.out.call hbel) (by omega) (by omega) (by omega) (by omega) (by omega) (by omega) (by intro i hi; rw [HSQ.out.2 i hi]; omega)).mono ?_
          rintro e w1 ⟨⟨a', cap', rfl, h1, h2, h3⟩, hb1⟩
          have hsq' := HSQ.out.cut (show 0 < n + 1 by omega) hlt
          simp only [Int.toNat_natCast, show (0 : Int).toNat = 0 from rfl] at h1 h3 ⊢
          rw [hsq'.1] at h1 h3 ⊢
          have hbel1 := below_trans hbel hb1
          have H3 := Lib.hid h3
          have HSQ' := Lib.hid hsq'
          clear h3 hsq' hb1
          go_wp2_with fail
          go_at_call 18
          refine (IH.out _ _ _ _ (by omega) h1 HSQ'.out H3.out).mono ?_
          rintro e w2 ⟨rfl, hb2⟩
          have hbel2 := below_trans hbel1 hb2
          clear hb2 hbel1 hcx
          go_wp2_with fail
          go_roundg (n + 1 - (k + 1))
          case measure => omega
          case rel => exact ⟨k + 1, by omega, by omega, by rw [wrap_term, HPP.out, HX.out, HRW.out, HSG.out, sumTo], by rw [sgn_succ, ← HSG.out], by go_num, hbel2⟩
      · obtain rfl : k = n + 1 := by omega
        go_wp2_with fail
        go_ret
        exact ⟨rfl, hbel⟩
end Go.Proofs.YtijlhdgagaehaaaDoor
