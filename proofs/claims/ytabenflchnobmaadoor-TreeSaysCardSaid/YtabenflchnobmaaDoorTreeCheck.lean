/- Contract of tree.Check. -/
import Derived.Test.YtabenflchnobmaaDoorAny
import Derived.Test.YtabenflchnobmaaDoorTreeMath
import Derived.Deep.LoopGhost
import Derived.BigQuiet
namespace Go.Proofs.YtabenflchnobmaaDoor
open Go.RowKit
set_option linter.unusedVariables false
set_option linter.unusedSimpArgs false



set_option maxHeartbeats 1000000 in
theorem TCheck_any (n : Int) (a : Option Addr) (m cap : Nat) (ps : List (List Int)) (w : World) (hr : RowsAt w a m ps) (hs : Small m ps) :
    Calls Tryd.prog 6 #[.int .i64 n, .slice a m cap] w fun e w' => e = .returned (errV (treeErr n ps)) ∧ Below w.heap.size w w' := by
  have hl := hr.1
  obtain ⟨hn, hbig⟩ := hs
  cases hob : outB 1 6 n
  · by_cases hm : 15 < m
    · have E : treeErr n ps = 4 := by unfold treeErr; rw [if_neg (by simp [hob]), if_pos (by omega)]
      rw [E]
      clear E
      have HBG := Lib.hid hbig
      have HR := Lib.hid hr
      clear hl hr hbig
      go_enter Tryd.func6, Tryd.ntmps6
      go_wp2_with fail
      go_at_call 15
      refine (Out_any' _ _ _ _).mono ?_
      rintro e w1 ⟨rfl, rfl⟩
      go_wp2_with fail
      go_ret
      exact ⟨rfl, Below.refl _ _⟩
    · have E : treeErr n ps = pairsErr n ps := by unfold treeErr; rw [if_neg (by simp [hob]), if_neg (by omega)]
      rw [E]
      have hn1 : 1 ≤ n ∧ n ≤ 6 := by simp [outB] at hob; omega
      obtain ⟨hn1, hn2⟩ := hn1
      have HR := Lib.hid hr
      have HLN := Lib.hid hl
      have HBG := Lib.hid hbig
      clear E hr hl hbig
      go_enter Tryd.func6, Tryd.ntmps6
      go_wp2_with fail
      go_at_call 15
      refine (Out_any' _ _ _ _).mono ?_
      rintro e w1 ⟨rfl, rfl⟩
      go_wp2_with fail
      go_loopg [18] (m + 1) (fun g i wr => ∃ k : Nat, k ≤ m ∧ m - k < g ∧ i = .int .i64 k ∧ (∀ i, i < k → GoodP n (ps.getD i [])) ∧ Below w.heap.size w wr)
      case atStart => exact ⟨0, by omega, by omega, rfl, fun i hi => by omega, Below.refl _ _⟩
      case round =>
        obtain ⟨k, hk, hg, rfl, hpre, hbel⟩ := hrel
        have HP := Lib.hid hpre
        have HRR := Lib.hid (HR.out.call hbel)
        clear hpre
        by_cases hlt : k < m
        · obtain ⟨b, off, ra, rc, rfl, hc, e1, e2, e3, e4⟩ := HRR.out.2 k hlt
          have hbr : b < wr.heap.size := World.block_lt_of_cell? _ _ hc
          have hbk := HBG.out k hlt
          obtain ⟨row, hrow⟩ : ∃ r, r = ps.getD k [] := ⟨_, rfl⟩
          rw [← hrow] at hc e1 e4 hbk
          obtain ⟨M, hM⟩ : ∃ M, M = row.length := ⟨_, rfl⟩
          rw [← hM] at hc e1 e4 hbk
          have HRW := Lib.hid hrow
          have HM := Lib.hid hM
          have E4 := Lib.hid e4
          clear hrow hM e3 e4
          by_cases hML : M = 2
          · have hMb : ((M : Int) != 2) = false := by simp [hML]
            obtain ⟨b2, off2, rfl, hb2, hcs⟩ := E4.out.some (by omega)
            have x0 := hcs 0 (by omega)
            have x1 := hcs 1 (by omega)
            obtain ⟨x, hx⟩ : ∃ x, x = row.getD 0 0 := ⟨_, rfl⟩
            obtain ⟨y, hy⟩ : ∃ y, y = row.getD 1 0 := ⟨_, rfl⟩
            rw [← hx, Nat.add_zero] at x0
            rw [← hy] at x1
            have HX := Lib.hid hx
            have HY := Lib.hid hy
            have HML := Lib.hid hML
            have hM0 : 0 < M := by omega
            have hM1 : 1 < M := by omega
            have hM1i : (1 : Int) < (M : Int) := by omega
            clear hx hy hcs hML
            by_cases hxy : x = y
            · have hxb : (x == y) = true := by simp [hxy]
              have HE := Lib.hid (pairsErr_three (n := n) (by rw [HLN.out]; exact hlt) HP.out (Or.inr (by rw [← HRW.out, ← HX.out, ← HY.out]; exact hxy)))
              clear hxy
              go_wp2_with fail
              refine wp_region_quiet (C := Cls wr.heap.size wr) (by kernel_rfl) (by kernel_rfl) Cls.start ?_
              repeat
                (refine wpQuiet_step (fun K hK => ?_)
                 go_simp
                 first
                   | (refine hK _ ?_; clear hK K)
                   | (apply Exists.intro
                      refine ⟨fun w' hC => ?_, hK _ ?_⟩
                      · (obtain ⟨hr, hr2⟩ := hC.rules
                         first
                           | (fail)
                           | (go_simp; done)
                           | (go_simp; rfl))
                      clear hK K))
              refine wpQuiet_nil ?_
              intro w2 hw2
              go_wp2_with fail
              go_ret
              exact ⟨by rw [HE.out]; rfl, below_trans hbel hw2⟩
            · have hxb : (x == y) = false := by simp [hxy]
              have HXY := Lib.hid hxy
              clear hxy
              cases hao : anyOut 0 (n - 1) row
              · have HAO := Lib.hid hao
                go_wp2_with fail
                refine wp_region_quiet (C := Cls wr.heap.size wr) (by kernel_rfl) (by kernel_rfl) Cls.start ?_
                repeat
                  (refine wpQuiet_step (fun K hK => ?_)
                   go_simp
                   first
                     | (refine hK _ ?_; clear hK K)
                     | (apply Exists.intro
                        refine ⟨fun w' hC => ?_, hK _ ?_⟩
                        · (obtain ⟨hr, hr2⟩ := hC.rules
                           first
                             | (fail)
                             | (go_simp; done)
                             | (go_simp; rfl))
                        clear hK K))
                refine wpQuiet_nil ?_
                intro w2 hw2
                go_wp2_with fail
                go_at_call 16
                refine (Any_any _ M rc row _ _ _ (E4.out.call hw2) (by omega)).mono ?_
                rintro e w3 ⟨rfl, rfl⟩
                go_wp2_with fail
                go_roundg (m - k)
                case measure => omega
                case rel =>
                  refine ⟨k + 1, by omega, by omega, by go_num, fun i hi => ?_, below_trans hbel hw2⟩
                  by_cases hik : i < k
                  · exact HP.out i hik
                  · obtain rfl : i = k := by omega
                    rw [← HRW.out]
                    exact ⟨by rw [← HM.out]; exact HML.out, by rw [← HX.out, ← HY.out]; exact HXY.out, HAO.out⟩
              · have HE := Lib.hid (pairsErr_one (n := n) (by rw [HLN.out]; exact hlt) HP.out (by rw [← HRW.out, ← HX.out, ← HY.out, ← HM.out]; intro h; rcases h with h | h; exact h HML.out; exact HXY.out h) (by rw [← HRW.out]; exact hao))
                go_wp2_with fail
                refine wp_region_quiet (C := Cls wr.heap.size wr) (by kernel_rfl) (by kernel_rfl) Cls.start ?_
                repeat
                  (refine wpQuiet_step (fun K hK => ?_)
                   go_simp
                   first
                     | (refine hK _ ?_; clear hK K)
                     | (apply Exists.intro
                        refine ⟨fun w' hC => ?_, hK _ ?_⟩
                        · (obtain ⟨hr, hr2⟩ := hC.rules
                           first
                             | (fail)
                             | (go_simp; done)
                             | (go_simp; rfl))
                        clear hK K))
                refine wpQuiet_nil ?_
                intro w2 hw2
                go_wp2_with fail
                go_at_call 16
                refine (Any_any _ M rc row _ _ _ (E4.out.call hw2) (by omega)).mono ?_
                rintro e w3 ⟨rfl, rfl⟩
                go_wp2_with fail
                go_ret
                exact ⟨by rw [HE.out]; rfl, below_trans hbel hw2⟩
          · have hMb : ((M : Int) != 2) = true := by simp; omega
            have HE := Lib.hid (pairsErr_three (n := n) (by rw [HLN.out]; exact hlt) HP.out (Or.inl (by rw [← HRW.out, ← HM.out]; exact hML)))
            clear hML
            go_wp2_with fail
            refine wp_region_quiet (C := Cls wr.heap.size wr) (by kernel_rfl) (by kernel_rfl) Cls.start ?_
            repeat
              (refine wpQuiet_step (fun K hK => ?_)
               go_simp
               first
                 | (refine hK _ ?_; clear hK K)
                 | (apply Exists.intro
                    refine ⟨fun w' hC => ?_, hK _ ?_⟩
                    · (obtain ⟨hr, hr2⟩ := hC.rules
                       first
                         | (fail)
                         | (go_simp; done)
                         | (go_simp; rfl))
                    clear hK K))
            refine wpQuiet_nil ?_
            intro w2 hw2
            go_wp2_with fail
            go_ret
            exact ⟨by rw [HE.out]; rfl, below_trans hbel hw2⟩
        · have HE := Lib.hid (pairsErr_zero (n := n) (ps := ps) (fun i hi => HP.out i (by rw [HLN.out] at hi; omega)))
          go_wp2_with fail
          go_ret
          exact ⟨by rw [HE.out]; rfl, hbel⟩
  · have E : treeErr n ps = 1 := by unfold treeErr; rw [if_pos hob]
    rw [E]
    clear E
    have HBG := Lib.hid hbig
    have HR := Lib.hid hr
    clear hl hr hbig
    go_enter Tryd.func6, Tryd.ntmps6
    go_wp2_with fail
    go_at_call 15
    refine (Out_any' _ _ _ _).mono ?_
    rintro e w1 ⟨rfl, rfl⟩
    go_wp2_with fail
    go_ret
    exact ⟨rfl, Below.refl _ _⟩
end Go.Proofs.YtabenflchnobmaaDoor
