/- Contract of the reference's Same, of like matrices. -/
import Derived.Test.YtinekiclcccpbaaMem
import Derived.Deep.LoopGhost
import Derived.BigQuiet
namespace Go.Proofs.Ytinekiclcccpbaa
open Go.RowKit
set_option linter.unusedVariables false
set_option linter.unusedSimpArgs false

set_option maxHeartbeats 1000000 in
theorem Same_like (a a' : Option Addr) (n cap cap' : Nat) (rows : List (List Int)) (w : World) (hr : RowsAt w a n rows) (hr' : RowsAt w a' n rows) (hn : n ≤ 1000000) (hw : ∀ k, k < n → (rows.getD k []).length ≤ 1000000) :
    Calls Try.prog 11 #[.slice a n cap, .slice a' n cap'] w fun e w' => e = .returned (.bool true) ∧ Below w.heap.size w w' := by
  have HR := Lib.hid hr
  have HR' := Lib.hid hr'
  have HW := Lib.hid hw
  clear hr hr' hw
  go_enter Try.func11, Try.ntmps11
  go_wp2_with fail
  go_loopg [5] (n + 1) (fun g i wr => ∃ k : Nat, k ≤ n ∧ n - k < g ∧ i = .int .i64 k ∧ Below w.heap.size w wr)
  case atStart => exact ⟨0, by omega, by omega, rfl, Below.refl _ _⟩
  case round =>
    obtain ⟨k, hk, hg, rfl, hbel⟩ := hrel
    by_cases hlt : k < n
    · have HRR := Lib.hid (HR.out.call hbel)
      have HRR' := Lib.hid (HR'.out.call hbel)
      obtain ⟨b, off, ra, rc, rfl, hc, e1, e2, e3, e4⟩ := HRR.out.2 k hlt
      obtain ⟨b', off', ra', rc', rfl, hc', e1', e2', e3', e4'⟩ := HRR'.out.2 k hlt
      have hwk := HW.out k hlt
      obtain ⟨row, hrow⟩ : ∃ r, r = rows.getD k [] := ⟨_, rfl⟩
      rw [← hrow] at hc hc' e1 e1' e4 e4' hwk
      obtain ⟨M, hM⟩ : ∃ M, M = row.length := ⟨_, rfl⟩
      rw [← hM] at hc hc' e1 e1' e4 e4' hwk
      have hbr : b < wr.heap.size := World.block_lt_of_cell? _ _ hc
      have hbr' : b' < wr.heap.size := World.block_lt_of_cell? _ _ hc'
      have E4 := Lib.hid e4
      have E4' := Lib.hid e4'
      clear hrow hM e3 e3' e4 e4'
      go_wp2_with fail
      refine wp_region_quiet (C := Cls wr.heap.size wr) (by kernel_rfl) (by kernel_rfl) Cls.start ?_
      repeat
        (refine wpQuiet_step (fun K hK => ?_)
         go_simp
         first
           | (refine hK _ ?_; clear hK K)
           | (apply Exists.intro
              refine ⟨fun w' hC => ?_, hK _ ?_⟩
              · (obtain ⟨hr, hr2⟩ := hC.rules
                 first
                   | (fail)
                   | (go_simp; done)
                   | (go_simp; rfl))
              clear hK K))
      refine wpQuiet_nil ?_
      intro w2 hw2
      have c2 : w2.cell? ⟨b, off + k, none⟩ = some (.slice ra M rc) := by rw [hw2.cell (p := ⟨b, off + k, none⟩) hbr]; exact hc
      have c2' : w2.cell? ⟨b', off' + k, none⟩ = some (.slice ra' M rc') := by rw [hw2.cell (p := ⟨b', off' + k, none⟩) hbr']; exact hc'
      have F4 := Lib.hid (E4.out.call hw2)
      have F4' := Lib.hid (E4'.out.call hw2)
      have hb2 : b < w2.heap.size := World.block_lt_of_cell? _ _ c2
      have hb2' : b' < w2.heap.size := World.block_lt_of_cell? _ _ c2'
      have hbel2 := below_trans hbel hw2
      clear hc hc' hw2 hbel hbr hbr'
      go_wp2_with fail
      go_loopg [6] (M + 1) (fun g i wr => ∃ l : Nat, l ≤ M ∧ M - l < g ∧ i = .int .i64 l ∧ Below w2.heap.size w2 wr)
      case atStart => exact ⟨0, by omega, by omega, rfl, Below.refl _ _⟩
      case round =>
        obtain ⟨l, hl, hg2, rfl, hbel3⟩ := hrel
        have c3 : wr.cell? ⟨b, off + k, none⟩ = some (.slice ra M rc) := by rw [hbel3.cell (p := ⟨b, off + k, none⟩) hb2]; exact c2
        have c3' : wr.cell? ⟨b', off' + k, none⟩ = some (.slice ra' M rc') := by rw [hbel3.cell (p := ⟨b', off' + k, none⟩) hb2']; exact c2'
        have hb3 : b < wr.heap.size := World.block_lt_of_cell? _ _ c3
        have hb3' : b' < wr.heap.size := World.block_lt_of_cell? _ _ c3'
        by_cases hlt2 : l < M
        · obtain ⟨b5, o5, rfl, hx⟩ := (F4.out.call hbel3).2 l hlt2
          obtain ⟨b6, o6, rfl, hx'⟩ := (F4'.out.call hbel3).2 l hlt2
          obtain ⟨x, hxx⟩ : ∃ x, x = row.getD l 0 := ⟨_, rfl⟩
          rw [← hxx] at hx hx'
          have hb5 : b5 < wr.heap.size := World.block_lt_of_cell? _ _ hx
          have hb6 : b6 < wr.heap.size := World.block_lt_of_cell? _ _ hx'
          clear hxx c2 c2'
          go_wp2_with fail
          refine wp_region_quiet (C := Cls wr.heap.size wr) (by kernel_rfl) (by kernel_rfl) Cls.start ?_
          repeat
            (refine wpQuiet_step (fun K hK => ?_)
             go_simp
             first
               | (refine hK _ ?_; clear hK K)
               | (apply Exists.intro
                  refine ⟨fun w' hC => ?_, hK _ ?_⟩
                  · (obtain ⟨hr, hr2⟩ := hC.rules
                     first
                       | (fail)
                       | (go_simp; done)
                       | (go_simp; rfl))
                  clear hK K))
          refine wpQuiet_nil ?_
          intro w4 hw4
          go_wp2_with fail
          go_roundg (M - l)
          case measure => omega
          case rel => exact ⟨l + 1, by omega, by omega, by go_num, below_trans hbel3 hw4⟩
        · obtain rfl : l = M := by omega
          go_wp2_with fail
          go_roundg (n - k)
          case measure => omega
          case rel => exact ⟨k + 1, by omega, by omega, by go_num, below_trans hbel2 hbel3⟩
    · go_wp2_with fail
      go_ret
      exact ⟨rfl, hbel⟩
end Go.Proofs.Ytinekiclcccpbaa
