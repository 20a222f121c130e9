/- Contract of pfaff.of. -/
import Derived.Test.YtkcgcedldjcfjaaDoorCutCall
import Derived.Test.YtkcgcedldjcfjaaDoorPfMath
import Derived.Deep.LoopGhost
import Derived.BigQuiet
namespace Go.Proofs.YtkcgcedldjcfjaaDoor
open Go.RowKit
set_option linter.unusedVariables false
set_option linter.unusedSimpArgs false

set_option maxHeartbeats 1000000 in
theorem Pf_of_any (n : Nat) : ∀ (a : Option Addr) (cap : Nat) (rows : List (List Int)) (w : World), n ≤ 1000 → n ≤ cap → Sq n rows → RowsAt w a n rows →
    Calls Tryd.prog 18 #[.slice a n cap] w fun e w' => e = .returned (.int .i64 (wrap64 (pfN n rows))) ∧ Below w.heap.size w w' := by
  induction n using Nat.strongRecOn with
  | _ n ih =>
    intro a cap rows w hn hcap hsq hr
    match n, ih with
    | 0, _ =>
      go_enter Tryd.func18, Tryd.ntmps18
      go_wp2_with fail
      go_ret
      exact ⟨ret_int (by rw [pfN, wrap_in (by omega) (by omega)]), Below.refl _ _⟩
    | 1, _ =>
      clear hr hsq
      go_enter Tryd.func18, Tryd.ntmps18
      go_wp2_with fail
      go_loopg [3, 4, 5] 1 (fun g s t i wr => s = .int .i64 0 ∧ t = .int .i64 1 ∧ i = .int .i64 1 ∧ wr = w)
      case atStart => exact ⟨rfl, rfl, rfl, rfl⟩
      case round =>
        obtain ⟨rfl, rfl, rfl, rfl⟩ := hrel
        go_wp2_with fail
        go_ret
        exact ⟨ret_int (by rw [pfN, wrap_in (by omega) (by omega)]), Below.refl _ _⟩
    | n + 2, ih =>
      obtain ⟨b, off, rfl, hb⟩ := hr.some (by omega)
      obtain ⟨ra, rc, hc0, hrc, hrm, _, hrow⟩ := hr.row (i := 0) (by omega)
      have hlen0 := hsq.2 0 (by omega)
      rw [hlen0] at hc0 hrc hrow
      obtain ⟨b0, off0, rfl, hb0, hcells⟩ := hrow.some (by omega)
      obtain ⟨row, hrw⟩ : ∃ r, r = rows.getD 0 [] := ⟨_, rfl⟩
      have HSQ := Lib.hid hsq
      have HR := Lib.hid hr
      have HRW := Lib.hid hrw
      have IH := Lib.hid (ih n (by omega))
      have hcell : ∀ i, i < n + 2 → w.cell? ⟨b0, off0 + i, none⟩ = some (.int .i64 (row.getD i 0)) := by rw [hrw]; exact hcells
      have HC := Lib.hid hcell
      clear hsq hr hrw hrow hlen0 hcells ih hcell
      rw [Nat.add_zero] at hc0
      go_enter Tryd.func18, Tryd.ntmps18
      go_wp2_with fail
      go_loopg [3, 4, 5] (n + 1) (fun g s t i wr => ∃ k : Nat, k ≤ n + 1 ∧ n + 1 - k ≤ g ∧ s = .int .i64 (wrap64 (sumTo (fun j => sgn j * (rows.getD 0 []).getD (j + 1) 0 * pfN n (cut (cut rows (j + 1) (j + 1)) 0 0)) k)) ∧ t = .int .i64 (sgn k) ∧ i = .int .i64 (k + 1 : Nat) ∧ Below w.heap.size w wr)
      case atStart => exact ⟨0, by omega, by omega, by rw [sumTo, wrap_in (by omega) (by omega)], rfl, rfl, Below.refl _ _⟩
      case round =>
        obtain ⟨k, hk, hg, rfl, rfl, rfl, hbel⟩ := hrel
        by_cases hlt : k < n + 1
        · obtain ⟨x, hx⟩ : ∃ x, x = row.getD (k + 1) 0 := ⟨_, rfl⟩
          obtain ⟨hs1, hs2⟩ := sgn_bd k
          obtain ⟨P, hP⟩ : ∃ P, P = sumTo (fun j => sgn j * (rows.getD 0 []).getD (j + 1) 0 * pfN n (cut (cut rows (j + 1) (j + 1)) 0 0)) k := ⟨_, rfl⟩
          rw [← hP]
          obtain ⟨sg, hsg⟩ : ∃ s, s = sgn k := ⟨_, rfl⟩
          rw [← hsg] at hs1 hs2 ⊢
          have HX := Lib.hid hx
          have HPP := Lib.hid hP
          have HSG := Lib.hid hsg
          clear hP hsg hx
          obtain ⟨k1, hk1⟩ : ∃ k1 : Nat, k1 = k + 1 := ⟨_, rfl⟩
          rw [← hk1]
          have hk2 : k1 < n + 2 := by omega
          have hk3 : 1 ≤ k1 := by omega
          have HK1 := Lib.hid hk1
          clear hk1
          go_wp2_with fail
          go_at_call 24
          refine (Cut_call _ (n + 2) _ rows k1 k1 _ (HR.out.call hbel) (by omega) (by omega) (by omega) (by omega) (by omega) (by omega) (by intro i hi; rw [HSQ.out.2 i hi]; omega)).mono ?_
          rintro e w1 ⟨⟨a', cap', rfl, h1, h2, h3⟩, hb1⟩
          have hsq' := HSQ.out.cut hk2 hk2
          simp only [Int.toNat_natCast] at h1 h3 ⊢
          rw [hsq'.1] at h1 h3 ⊢
          have hbel1 := below_trans hbel hb1
          have H3 := Lib.hid h3
          have HSQ' := Lib.hid hsq'
          clear h3 hsq' hb1
          go_wp2_with fail
          go_at_call 24
          refine (Cut_call _ (n + 1) _ _ 0 0 _ H3.out (by omega) h1 (by omega) (by omega) (by omega) (by omega) (by intro i hi; rw [HSQ'.out.2 i hi]; omega)).mono ?_
          rintro e w2 ⟨⟨a2, cap2, rfl, h4, h5, h6⟩, hb2⟩
          have hsq2 := HSQ'.out.cut (show 0 < n + 1 by omega) (show 0 < n + 1 by omega)
          simp only [show (0 : Int).toNat = 0 from rfl] at h4 h6 ⊢
          rw [hsq2.1] at h4 h6 ⊢
          have hbel2 := below_trans hbel1 hb2
          have H6 := Lib.hid h6
          have HSQ2 := Lib.hid hsq2
          clear h6 hsq2 hb2 hbel1
          have hc0r : w2.cell? ⟨b, off, none⟩ = some (.slice (some ⟨b0, off0, none⟩) (n + 2) rc) := by rw [hbel2.cell (p := ⟨b, off, none⟩) hb]; exact hc0
          have hcx : w2.cell? ⟨b0, off0 + k1, none⟩ = some (.int .i64 x) := by rw [hbel2.cell (p := ⟨b0, off0 + k1, none⟩) hb0, HX.out, ← HK1.out]; exact HC.out k1 hk2
          go_wp2_with fail
          have hszb : b < w2.heap.size := by have := hbel2.size; omega
          have hszb0 : b0 < w2.heap.size := by have := hbel2.size; omega
          have hki : (0 : Int) ≤ (k1 : Int) := by omega
          have hki2 : (k1 : Int) < (n : Int) + 2 := by omega
          have hz2 : (0 : Int) < (n : Int) + 2 := by omega
          refine wp_region_quiet (C := Cls w2.heap.size w2) (by kernel_rfl) (by kernel_rfl) Cls.start ?_
          repeat
            (refine wpQuiet_step (fun K hK => ?_)
             go_simp
             first
               | (refine hK _ ?_; clear hK K)
               | (apply Exists.intro
                  refine ⟨fun w' hC => ?_, hK _ ?_⟩
                  · (obtain ⟨hr, hr2⟩ := hC.rules
                     first
                       | (go_at_call 18; exact Cls.call hC (Nat.le_refl _) (IH.out _ _ _ _ (by omega) h4 HSQ2.out (H6.out.call hC)))
                       | (go_simp; done)
                       | (go_simp; rfl))
                  clear hK K))
          refine wpQuiet_nil ?_
          intro w3 hw3
          have hbel3 := below_trans hbel2 hw3
          clear hw3 hbel2 hcx hc0r
          go_wp2_with fail
          go_roundg (n + 1 - (k + 1))
          case measure => omega
          case rel => exact ⟨k + 1, by omega, by omega, by simp only [IntWalk.i64_left]; rw [wrap_term, HPP.out, HX.out, HRW.out, HSG.out, HK1.out, sumTo], by rw [sgn_succ, ← HSG.out], by rw [HK1.out]; go_num, hbel3⟩
        · obtain rfl : k = n + 1 := by omega
          go_wp2_with fail
          go_ret
          exact ⟨rfl, hbel⟩
end Go.Proofs.YtkcgcedldjcfjaaDoor
