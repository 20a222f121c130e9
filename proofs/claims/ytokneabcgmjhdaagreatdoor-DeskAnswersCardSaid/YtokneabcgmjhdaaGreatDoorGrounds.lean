/- Contracts of num.Grounds and num.Square. -/
import Derived.Test.YtokneabcgmjhdaaGreatDoorBase
import Derived.Deep.LoopGhost
import Derived.BigQuiet
namespace Go.Proofs.YtokneabcgmjhdaaGreatDoor
open Go.RowKit
set_option linter.unusedVariables false
set_option linter.unusedSimpArgs false

set_option maxHeartbeats 1000000 in
theorem Grounds_any (a : Option Addr) (n cap : Nat) (rows : List (List Int)) (most lo hi : Int) (w : World) (hr : RowsAt w a n rows) (hm0 : 0 ≤ most) (hm1 : most ≤ 1000) (hn : n ≤ 9223372036854775807) (hbig : ∀ k, k < n → (rows.getD k []).length ≤ 9223372036854775807) :
    Calls Tryz.prog 142 #[.slice a n cap, .int .i64 most, .int .i64 lo, .int .i64 hi] w fun e w' => e = .returned (errV (matErr rows most lo hi)) ∧ w = w' := by
  have hl := hr.1
  by_cases hn0 : n = 0
  · subst hn0
    have E : matErr rows most lo hi = 5 := by unfold matErr; rw [if_pos (Or.inl hl)]
    rw [E]
    clear E
    go_enter Tryz.func142, Tryz.ntmps142
    go_wp2_with fail
    go_ret
    exact ⟨rfl, rfl⟩
  · obtain ⟨b, off, rfl, hb⟩ := hr.some (by omega)
    obtain ⟨ra0, rc0, hc0, g1, g2, g3, g4⟩ := hr.row (i := 0) (by omega)
    rw [Nat.add_zero] at hc0
    have hbig0 := hbig 0 (by omega)
    obtain ⟨L, hL⟩ : ∃ L, L = (rows.getD 0 []).length := ⟨_, rfl⟩
    rw [← hL] at hc0 g1 hbig0
    have HLL := Lib.hid hL
    have HLN := Lib.hid hl
    have HR := Lib.hid hr
    have HBG := Lib.hid hbig
    clear hL hl hr hbig
    have hnb : ((n : Int) == 0) = false := by simp [hn0]
    have hnp : 0 < n := by omega
    clear hn0 g3 g4
    by_cases hL0 : L = 0
    · have E : matErr rows most lo hi = 5 := by unfold matErr; rw [if_pos (Or.inr (by rw [← HLL.out]; exact hL0))]
      rw [E]
      clear E
      subst hL0
      go_enter Tryz.func142, Tryz.ntmps142
      go_wp2_with fail
      go_ret
      exact ⟨rfl, rfl⟩
    · have hLb : ((L : Int) == 0) = false := by simp [hL0]
      have hLp : 0 < L := by omega
      by_cases hm : most < n
      · have E : matErr rows most lo hi = 4 := by unfold matErr; rw [if_neg (by rw [HLN.out, ← HLL.out]; omega), if_pos (Or.inl (by rw [HLN.out]; exact hm))]
        rw [E]
        clear E hL0
        go_enter Tryz.func142, Tryz.ntmps142
        go_wp2_with fail
        go_ret
        exact ⟨rfl, rfl⟩
      · by_cases hmL : most < L
        · have E : matErr rows most lo hi = 4 := by unfold matErr; rw [if_neg (by rw [HLN.out, ← HLL.out]; omega), if_pos (Or.inr (by rw [← HLL.out]; exact hmL))]
          rw [E]
          clear E hL0
          go_enter Tryz.func142, Tryz.ntmps142
          go_wp2_with fail
          go_ret
          exact ⟨rfl, rfl⟩
        · have E : matErr rows most lo hi = rowsErr L lo hi rows := by unfold matErr; rw [if_neg (by rw [HLN.out, ← HLL.out]; omega), if_neg (by rw [HLN.out, ← HLL.out]; omega), ← HLL.out]
          rw [E]
          clear E hL0
          go_enter Tryz.func142, Tryz.ntmps142
          go_wp2_with fail
          go_loopg [39] (n + 1) (fun g i wr => ∃ k : Nat, k ≤ n ∧ n - k < g ∧ i = .int .i64 k ∧ (∀ i, i < k → (rows.getD i []).length = L ∧ anyOut lo hi (rows.getD i []) = false) ∧ wr = w)
          case atStart => exact ⟨0, by omega, by omega, rfl, fun i hi => by omega, rfl⟩
          case round =>
            obtain ⟨k, hk, hg, rfl, hpre, rfl⟩ := hrel
            have HP := Lib.hid hpre
            clear hpre
            by_cases hlt : k < n
            · obtain ⟨ra, rc, hc, e1, e2, e3, e4⟩ := HR.out.row hlt
              have hbk := HBG.out k hlt
              obtain ⟨row, hrow⟩ : ∃ r, r = rows.getD k [] := ⟨_, rfl⟩
              rw [← hrow] at hc e1 e4 hbk
              obtain ⟨M, hM⟩ : ∃ M, M = row.length := ⟨_, rfl⟩
              rw [← hM] at hc e1 e4 hbk
              have HRW := Lib.hid hrow
              have HM := Lib.hid hM
              have E4 := Lib.hid e4
              clear hrow hM e3 e4
              by_cases hML : M = L
              · have hMb : ((M : Int) != (L : Int)) = false := by simp [hML]
                have HML := Lib.hid hML
                clear hML
                cases hao : anyOut lo hi row
                · have HAO := Lib.hid hao
                  go_wp2_with (go_at_call 110; refine (Any_any _ M rc row _ _ _ E4.out (by omega)).mono ?_; rintro e w' ⟨rfl, rfl⟩)
                  go_roundg (n - k)
                  case measure => omega
                  case rel =>
                    refine ⟨k + 1, by omega, by omega, by go_num, fun i hi => ?_, rfl⟩
                    by_cases hik : i < k
                    · exact HP.out i hik
                    · obtain rfl : i = k := by omega
                      exact ⟨by rw [← HRW.out, ← HM.out, HML.out], by rw [← HRW.out]; exact HAO.out⟩
                · have HAO := Lib.hid hao
                  have HE := Lib.hid (rowsErr_one (L := L) (lo := lo) (hi := hi) (by rw [HLN.out]; exact hlt) HP.out (by rw [← HRW.out, ← HM.out, HML.out]) (by rw [← HRW.out]; exact HAO.out))
                  go_wp2_with (go_at_call 110; refine (Any_any _ M rc row _ _ _ E4.out (by omega)).mono ?_; rintro e w' ⟨rfl, rfl⟩)
                  go_ret
                  exact ⟨by rw [HE.out]; rfl, rfl⟩
              · have hMb : ((M : Int) != (L : Int)) = true := by simp; omega
                have HE := Lib.hid (rowsErr_three (L := L) (lo := lo) (hi := hi) (by rw [HLN.out]; exact hlt) HP.out (by rw [← HRW.out, ← HM.out]; exact hML))
                clear hML
                go_wp2_with fail
                go_ret
                exact ⟨by rw [HE.out]; rfl, rfl⟩
            · have HE := Lib.hid (rowsErr_zero (L := L) (lo := lo) (hi := hi) (rows := rows) (fun i hi => HP.out i (by rw [HLN.out] at hi; omega)))
              go_wp2_with fail
              go_ret
              exact ⟨by rw [HE.out]; rfl, rfl⟩

end Go.Proofs.YtokneabcgmjhdaaGreatDoor
