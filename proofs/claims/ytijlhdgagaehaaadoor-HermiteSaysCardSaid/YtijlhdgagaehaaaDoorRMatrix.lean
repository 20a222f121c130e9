/- Contracts of the reference's in, All, Matrix, Square. -/
import Derived.Test.YtijlhdgagaehaaaDoorMem
import Derived.Test.YtijlhdgagaehaaaDoorErrMath
import Derived.Deep.LoopGhost
import Derived.BigQuiet
namespace Go.Proofs.YtijlhdgagaehaaaDoor
open Go.RowKit
set_option linter.unusedVariables false
set_option linter.unusedSimpArgs false

theorem Rin_any (n lo hi : Int) (w : World) :
    Calls Tryd.prog 27 #[.int .i64 n, .int .i64 lo, .int .i64 hi] w fun e w' => e = .returned (.bool (inB n lo hi)) ∧ w = w' := by
  by_cases h1 : lo ≤ n <;> by_cases h2 : n ≤ hi
  all_goals
    go_enter Tryd.func27, Tryd.ntmps27
    go_wp2
    go_ret
    exact ⟨ret_bool (by simp [inB, h1, h2]), rfl⟩

theorem RAll_any (a : Option Addr) (n cap : Nat) (xs : List Int) (lo hi : Int) (w : World) (hx : IntsAt w a n xs) (hn : n ≤ 9223372036854775807) :
    Calls Tryd.prog 12 #[.slice a n cap, .int .i64 lo, .int .i64 hi] w fun e w' => e = .returned (.bool (!anyOut lo hi xs)) ∧ w = w' := by
  obtain ⟨hlen, hc⟩ := hx
  have HL := Lib.hid hlen
  clear hlen
  go_enter Tryd.func12, Tryd.ntmps12
  go_wp2
  go_loopg [7] (n + 1) (fun g i wr => ∃ k : Nat, k ≤ n ∧ n - k < g ∧ i = .int .i64 k ∧ (xs.take k).any (outB lo hi) = false ∧ wr = w)
  case atStart => exact ⟨0, by omega, by omega, rfl, by simp, rfl⟩
  case round =>
    obtain ⟨k, hk, hg, rfl, h0, rfl⟩ := hrel
    have H0 := Lib.hid h0
    clear h0
    by_cases hlt : k < n
    · obtain ⟨b, off, rfl, hcell⟩ := hc k hlt
      obtain ⟨x, hx⟩ : ∃ x, x = xs.getD k 0 := ⟨_, rfl⟩
      rw [← hx] at hcell
      have HX := Lib.hid hx
      clear hx hc
      cases ho : outB lo hi x
      · have hi' : inB x lo hi = true := by rw [inB_out, ho]; rfl
        go_wp2_with (go_at_call 27; refine (Rin_any _ _ _ _).mono ?_; rintro e w' ⟨rfl, rfl⟩)
        go_roundg (n - k)
        case measure => omega
        case rel => exact ⟨k + 1, by omega, by omega, by go_num, anyOut_snoc lo hi xs k (by rw [HL.out]; exact hlt) H0.out (by rw [← HX.out]; exact ho), rfl⟩
      · have hi' : inB x lo hi = false := by rw [inB_out, ho]; rfl
        go_wp2_with (go_at_call 27; refine (Rin_any _ _ _ _).mono ?_; rintro e w' ⟨rfl, rfl⟩)
        go_ret
        exact ⟨ret_bool (by rw [anyOut_hit lo hi xs k (by rw [HL.out]; exact hlt) (by rw [← HX.out]; exact ho)]; rfl), rfl⟩
    · have he : (xs.take k).any (outB lo hi) = anyOut lo hi xs := by unfold anyOut; rw [List.take_of_length_le (by rw [HL.out]; omega)]
      rw [he] at H0
      go_wp2
      go_ret
      exact ⟨ret_bool (by rw [H0.out]; rfl), rfl⟩
set_option maxHeartbeats 1000000 in
theorem RMatrix_any (a : Option Addr) (n cap : Nat) (rows : List (List Int)) (most lo hi : Int) (w : World) (hr : RowsAt w a n rows) (hm0 : 0 ≤ most) (hm1 : most ≤ 1000) (hn : n ≤ 9223372036854775807) (hbig : ∀ k, k < n → (rows.getD k []).length ≤ 9223372036854775807) :
    Calls Tryd.prog 30 #[.slice a n cap, .int .i64 most, .int .i64 lo, .int .i64 hi] w fun e w' => e = .returned (.int .i64 (matErr rows most lo hi)) ∧ Below w.heap.size w w' := by
  have hl := hr.1
  by_cases hn0 : n = 0
  · subst hn0
    have E : matErr rows most lo hi = 5 := by unfold matErr; rw [if_pos (Or.inl hl)]
    rw [E]
    clear E
    go_enter Tryd.func30, Tryd.ntmps30
    go_wp2_with fail
    go_ret
    exact ⟨rfl, Below.refl _ _⟩
  · obtain ⟨b, off, rfl, hb⟩ := hr.some (by omega)
    obtain ⟨ra0, rc0, hc0, g1, g2, g3, g4⟩ := hr.row (i := 0) (by omega)
    rw [Nat.add_zero] at hc0
    have hbig0 := hbig 0 (by omega)
    obtain ⟨L, hL⟩ : ∃ L, L = (rows.getD 0 []).length := ⟨_, rfl⟩
    rw [← hL] at hc0 g1 hbig0
    have HLL := Lib.hid hL
    have HLN := Lib.hid hl
    have HR := Lib.hid hr
    have HBG := Lib.hid hbig
    clear hL hl hr hbig
    have hnb : ((n : Int) == 0) = false := by simp [hn0]
    have hnp : 0 < n := by omega
    clear hn0 g3 g4
    by_cases hL0 : L = 0
    · have E : matErr rows most lo hi = 5 := by unfold matErr; rw [if_pos (Or.inr (by rw [← HLL.out]; exact hL0))]
      rw [E]
      clear E
      subst hL0
      go_enter Tryd.func30, Tryd.ntmps30
      go_wp2_with fail
      go_ret
      exact ⟨rfl, Below.refl _ _⟩
    · have hLb : ((L : Int) == 0) = false := by simp [hL0]
      have hLp : 0 < L := by omega
      by_cases hm : most < n
      · have E : matErr rows most lo hi = 4 := by unfold matErr; rw [if_neg (by rw [HLN.out, ← HLL.out]; omega), if_pos (Or.inl (by rw [HLN.out]; exact hm))]
        rw [E]
        clear E hL0
        go_enter Tryd.func30, Tryd.ntmps30
        go_wp2_with fail
        go_ret
        exact ⟨rfl, Below.refl _ _⟩
      · by_cases hmL : most < L
        · have E : matErr rows most lo hi = 4 := by unfold matErr; rw [if_neg (by rw [HLN.out, ← HLL.out]; omega), if_pos (Or.inr (by rw [← HLL.out]; exact hmL))]
          rw [E]
          clear E hL0
          go_enter Tryd.func30, Tryd.ntmps30
          go_wp2_with fail
          go_ret
          exact ⟨rfl, Below.refl _ _⟩
        · have E : matErr rows most lo hi = rowsErr L lo hi rows := by unfold matErr; rw [if_neg (by rw [HLN.out, ← HLL.out]; omega), if_neg (by rw [HLN.out, ← HLL.out]; omega), ← HLL.out]
          rw [E]
          clear E hL0
          go_enter Tryd.func30, Tryd.ntmps30
          go_wp2_with fail
          go_loopg [9] (n + 1) (fun g i wr => ∃ k : Nat, k ≤ n ∧ n - k < g ∧ i = .int .i64 k ∧ (∀ i, i < k → (rows.getD i []).length = L ∧ anyOut lo hi (rows.getD i []) = false) ∧ Below w.heap.size w wr)
          case atStart => exact ⟨0, by omega, by omega, rfl, fun i hi => by omega, Below.refl _ _⟩
          case round =>
            obtain ⟨k, hk, hg, rfl, hpre, hbel⟩ := hrel
            have HP := Lib.hid hpre
            have HRR := Lib.hid (HR.out.call hbel)
            have hc0r : wr.cell? ⟨b, off, none⟩ = some (.slice ra0 L rc0) := by rw [hbel.cell (p := ⟨b, off, none⟩) hb]; exact hc0
            have hbr : b < wr.heap.size := by have := hbel.size; omega
            clear hpre hc0
            by_cases hlt : k < n
            · obtain ⟨ra, rc, hc, e1, e2, e3, e4⟩ := HRR.out.row hlt
              have hbk := HBG.out k hlt
              obtain ⟨row, hrow⟩ : ∃ r, r = rows.getD k [] := ⟨_, rfl⟩
              rw [← hrow] at hc e1 e4 hbk
              obtain ⟨M, hM⟩ : ∃ M, M = row.length := ⟨_, rfl⟩
              rw [← hM] at hc e1 e4 hbk
              have HRW := Lib.hid hrow
              have HM := Lib.hid hM
              have E4 := Lib.hid e4
              clear hrow hM e3 e4
              by_cases hML : M = L
              · have hMb : ((M : Int) != (L : Int)) = false := by simp [hML]
                have HML := Lib.hid hML
                clear hML
                cases hao : anyOut lo hi row
                · have HAO := Lib.hid hao
                  go_wp2_with fail
                  refine wp_region_quiet (C := Cls wr.heap.size wr) (by kernel_rfl) (by kernel_rfl) Cls.start ?_
                  repeat
                    (refine wpQuiet_step (fun K hK => ?_)
                     go_simp
                     first
                       | (refine hK _ ?_; clear hK K)
                       | (apply Exists.intro
                          refine ⟨fun w' hC => ?_, hK _ ?_⟩
                          · (obtain ⟨hr, hr2⟩ := hC.rules
                             first
                               | (fail)
                               | (go_simp; done)
                               | (go_simp; rfl))
                          clear hK K))
                  refine wpQuiet_nil ?_
                  intro w2 hw2
                  obtain ⟨hcc, hff⟩ := hw2.rules
                  go_wp2_with (go_at_call 12; refine (RAll_any _ M rc row _ _ _ (E4.out.call hw2) (by omega)).mono ?_; rintro e w' ⟨rfl, rfl⟩)
                  go_roundg (n - k)
                  case measure => omega
                  case rel =>
                    refine ⟨k + 1, by omega, by omega, by go_num, fun i hi => ?_, below_trans hbel hw2⟩
                    by_cases hik : i < k
                    · exact HP.out i hik
                    · obtain rfl : i = k := by omega
                      exact ⟨by rw [← HRW.out, ← HM.out, HML.out], by rw [← HRW.out]; exact HAO.out⟩
                · have HAO := Lib.hid hao
                  go_wp2_with fail
                  refine wp_region_quiet (C := Cls wr.heap.size wr) (by kernel_rfl) (by kernel_rfl) Cls.start ?_
                  repeat
                    (refine wpQuiet_step (fun K hK => ?_)
                     go_simp
                     first
                       | (refine hK _ ?_; clear hK K)
                       | (apply Exists.intro
                          refine ⟨fun w' hC => ?_, hK _ ?_⟩
                          · (obtain ⟨hr, hr2⟩ := hC.rules
                             first
                               | (fail)
                               | (go_simp; done)
                               | (go_simp; rfl))
                          clear hK K))
                  refine wpQuiet_nil ?_
                  intro w2 hw2
                  obtain ⟨hcc, hff⟩ := hw2.rules
                  have HE := Lib.hid (rowsErr_one (L := L) (lo := lo) (hi := hi) (by rw [HLN.out]; exact hlt) HP.out (by rw [← HRW.out, ← HM.out, HML.out]) (by rw [← HRW.out]; exact HAO.out))
                  go_wp2_with (go_at_call 12; refine (RAll_any _ M rc row _ _ _ (E4.out.call hw2) (by omega)).mono ?_; rintro e w' ⟨rfl, rfl⟩)
                  go_ret
                  exact ⟨by rw [HE.out]; rfl, below_trans hbel hw2⟩
              · have hMb : ((M : Int) != (L : Int)) = true := by simp; omega
                have HE := Lib.hid (rowsErr_three (L := L) (lo := lo) (hi := hi) (by rw [HLN.out]; exact hlt) HP.out (by rw [← HRW.out, ← HM.out]; exact hML))
                clear hML
                go_wp2_with fail
                refine wp_region_quiet (C := Cls wr.heap.size wr) (by kernel_rfl) (by kernel_rfl) Cls.start ?_
                repeat
                  (refine wpQuiet_step (fun K hK => ?_)
                   go_simp
                   first
                     | (refine hK _ ?_; clear hK K)
                     | (apply Exists.intro
                        refine ⟨fun w' hC => ?_, hK _ ?_⟩
                        · (obtain ⟨hr, hr2⟩ := hC.rules
                           first
                             | (fail)
                             | (go_simp; done)
                             | (go_simp; rfl))
                        clear hK K))
                refine wpQuiet_nil ?_
                intro w2 hw2
                go_wp2_with fail
                go_ret
                exact ⟨by rw [HE.out]; rfl, below_trans hbel hw2⟩
            · have HE := Lib.hid (rowsErr_zero (L := L) (lo := lo) (hi := hi) (rows := rows) (fun i hi => HP.out i (by rw [HLN.out] at hi; omega)))
              go_wp2_with fail
              go_ret
              exact ⟨by rw [HE.out]; rfl, hbel⟩


/-- the rows of a matrix are no wider than it is high -/
theorem RSquare_any (a : Option Addr) (n cap : Nat) (rows : List (List Int)) (most lo hi : Int) (w : World) (hr : RowsAt w a n rows) (hm0 : 0 ≤ most) (hm1 : most ≤ 1000) (hn : n ≤ 9223372036854775807) (hbig : ∀ k, k < n → (rows.getD k []).length ≤ 9223372036854775807) :
    Calls Tryd.prog 14 #[.slice a n cap, .int .i64 most, .int .i64 lo, .int .i64 hi] w fun e w' => e = .returned (.int .i64 (sqErr rows most lo hi)) ∧ Below w.heap.size w w' := by
  have hG := fun w (h : RowsAt w a n rows) => RMatrix_any a n cap rows most lo hi w h hm0 hm1 hn hbig
  by_cases he : matErr rows most lo hi = 0
  · rw [he] at hG
    have hl := hr.1
    have hnp : 0 < n := by
      rcases Nat.eq_zero_or_pos n with h | h
      · rw [h] at hl; simp [matErr, hl] at he
      · exact h
    obtain ⟨b, off, rfl, hb⟩ := hr.some hnp
    obtain ⟨ra0, rc0, hc0, g1, g2, g3, g4⟩ := hr.row (i := 0) hnp
    rw [Nat.add_zero] at hc0
    have hbig0 := hbig 0 hnp
    obtain ⟨L, hL⟩ : ∃ L, L = (rows.getD 0 []).length := ⟨_, rfl⟩
    rw [← hL] at hc0 g1 hbig0
    have HR := Lib.hid hr
    have hs : sqErr rows most lo hi = if n = L then 0 else 3 := by
      unfold sqErr
      rw [if_neg (by simp [he]), hl, ← hL]
      by_cases h : n = L
      · rw [if_neg (by simp [h]), if_pos h]
      · rw [if_pos h, if_neg h]
    rw [hs]
    clear hs hl he hr hL g3 g4 hbig
    by_cases hnl : n = L
    · have hb2 : ((n : Int) != (L : Int)) = false := by simp [hnl]
      rw [if_pos hnl]
      clear hnl
      go_enter Tryd.func14, Tryd.ntmps14
      go_wp2_with fail
      go_at_call 30
      refine (hG _ HR.out).mono ?_
      rintro e w1 ⟨rfl, hb1⟩
      obtain ⟨hcc, hff⟩ := rules hb1
      go_wp2_with fail
      go_ret
      exact ⟨rfl, hb1⟩
    · have hb2 : ((n : Int) != (L : Int)) = true := by simp; omega
      rw [if_neg hnl]
      clear hnl
      go_enter Tryd.func14, Tryd.ntmps14
      go_wp2_with fail
      go_at_call 30
      refine (hG _ HR.out).mono ?_
      rintro e w1 ⟨rfl, hb1⟩
      obtain ⟨hcc, hff⟩ := rules hb1
      go_wp2_with fail
      go_ret
      exact ⟨rfl, hb1⟩
  · have E : sqErr rows most lo hi = matErr rows most lo hi := by unfold sqErr; rw [if_pos he]
    rw [E]
    have hb2 : (matErr rows most lo hi == 0) = false := by simp [he]
    generalize matErr rows most lo hi = e at *
    have HR := Lib.hid hr
    clear hr E he
    go_enter Tryd.func14, Tryd.ntmps14
    go_wp2_with fail
    go_at_call 30
    refine (hG _ HR.out).mono ?_
    rintro e w1 ⟨rfl, hb1⟩
    go_wp2_with fail
    go_ret
    exact ⟨rfl, hb1⟩
end Go.Proofs.YtijlhdgagaehaaaDoor
