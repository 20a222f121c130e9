/- Contracts of the statements' Ints and Rows, of like lists. -/
import Derived.Test.YtkpoemfdepjkaaaDoorBase
import Derived.Deep.LoopGhost
import Derived.BigQuiet
namespace Go.Proofs.YtkpoemfdepjkaaaDoor
open Go.RowKit
set_option linter.unusedVariables false
set_option linter.unusedSimpArgs false

set_option maxHeartbeats 1000000 in
theorem EInts_like (a b : Option Addr) (n cap cap' : Nat) (xs : List Int) (w : World) (ha : IntsAt w a n xs) (hb : IntsAt w b n xs) (hn : n ≤ 1000000) :
    Calls Tryd.prog 28 #[.slice a n cap, .slice b n cap'] w fun e w' => e = .returned (.bool true) ∧ Below w.heap.size w w' := by
  have HA := Lib.hid ha
  have HB := Lib.hid hb
  clear ha hb
  go_enter Tryd.func28, Tryd.ntmps28
  go_wp2_with fail
  go_loopg [5] (n + 1) (fun g i wr => ∃ k : Nat, k ≤ n ∧ n - k < g ∧ i = .int .i64 k ∧ Below w.heap.size w wr)
  case atStart => exact ⟨0, by omega, by omega, rfl, Below.refl _ _⟩
  case round =>
    obtain ⟨k, hk, hg, rfl, hbel⟩ := hrel
    by_cases hlt : k < n
    · obtain ⟨b1, o1, rfl, c1⟩ := (HA.out.call hbel).2 k hlt
      obtain ⟨b2, o2, rfl, c2⟩ := (HB.out.call hbel).2 k hlt
      have hk0 : (0 : Int) ≤ k := by omega
      have hk1 : (k : Int) < n := by omega
      generalize xs.getD k 0 = x at c1 c2
      have z1 := World.block_lt_of_cell? _ _ c1
      have z2 := World.block_lt_of_cell? _ _ c2
      dsimp only at z1 z2
      go_wp2_with fail
      refine wp_region_quiet (C := Cls wr.heap.size wr) (by kernel_rfl) (by kernel_rfl) Cls.start ?_
      repeat
        (refine wpQuiet_step (fun K hK => ?_)
         go_simp
         first
           | (refine hK _ ?_; clear hK K)
           | (apply Exists.intro
              refine ⟨fun w' hC => ?_, hK _ ?_⟩
              · (obtain ⟨hr, hr2⟩ := hC.rules
                 first
                   | (fail)
                   | (go_simp; done)
                   | (go_simp; rfl))
              clear hK K))
      refine wpQuiet_nil ?_
      intro w2 hw2
      have hB2 := below_trans hbel hw2
      go_wp2_with fail
      go_roundg (n - k)
      case measure => omega
      case rel => exact ⟨k + 1, by omega, by omega, by go_num, hB2⟩
    · obtain rfl : k = n := by omega
      go_wp2_with fail
      go_ret
      exact ⟨rfl, hbel⟩

set_option maxHeartbeats 1000000 in
theorem ERows_like (a b : Option Addr) (n cap cap' : Nat) (rows : List (List Int)) (w : World) (ha : RowsAt w a n rows) (hb : RowsAt w b n rows) (hn : n ≤ 1000000) (hw : ∀ k, k < n → (rows.getD k []).length ≤ 1000000) :
    Calls Tryd.prog 11 #[.slice a n cap, .slice b n cap'] w fun e w' => e = .returned (.bool true) ∧ Below w.heap.size w w' := by
  have HA := Lib.hid ha
  have HB := Lib.hid hb
  have HW := Lib.hid hw
  clear ha hb hw
  go_enter Tryd.func11, Tryd.ntmps11
  go_wp2_with fail
  go_loopg [5] (n + 1) (fun g i wr => ∃ k : Nat, k ≤ n ∧ n - k < g ∧ i = .int .i64 k ∧ Below w.heap.size w wr)
  case atStart => exact ⟨0, by omega, by omega, rfl, Below.refl _ _⟩
  case round =>
    obtain ⟨k, hk, hg, rfl, hbel⟩ := hrel
    by_cases hlt : k < n
    · obtain ⟨b1, o1, ra, rc, rfl, c1, e1, e2, e3, e4⟩ := (HA.out.call hbel).2 k hlt
      obtain ⟨b2, o2, ra2, rc2, rfl, c2, e1', e2', e3', e4'⟩ := (HB.out.call hbel).2 k hlt
      have hwk := HW.out k hlt
      have hk0 : (0 : Int) ≤ k := by omega
      have hk1 : (k : Int) < n := by omega
      generalize rows.getD k [] = row at *
      obtain ⟨M, hM⟩ : ∃ M, M = row.length := ⟨_, rfl⟩
      rw [← hM] at c1 c2 e1 e1' e4 e4' hwk
      have z1 := World.block_lt_of_cell? _ _ c1
      have z2 := World.block_lt_of_cell? _ _ c2
      dsimp only at z1 z2
      have HI := Lib.hid (fun W (h : Below wr.heap.size wr W) => EInts_like ra ra2 M rc rc2 row W (e4.call h) (e4'.call h) hwk)
      clear e1 e2 e3 e4 e1' e2' e3' e4' hM
      go_wp2_with fail
      refine wp_region_quiet (C := Cls wr.heap.size wr) (by kernel_rfl) (by kernel_rfl) Cls.start ?_
      repeat
        (refine wpQuiet_step (fun K hK => ?_)
         go_simp
         first
           | (refine hK _ ?_; clear hK K)
           | (apply Exists.intro
              refine ⟨fun w' hC => ?_, hK _ ?_⟩
              · (obtain ⟨hr, hr2⟩ := hC.rules
                 first
                   | (go_at_call 28; exact Cls.call hC (Nat.le_refl _) (HI.out _ hC))
                   | (go_simp; done)
                   | (go_simp; rfl))
              clear hK K))
      refine wpQuiet_nil ?_
      intro w2 hw2
      have hB2 := below_trans hbel hw2
      go_wp2_with fail
      go_roundg (n - k)
      case measure => omega
      case rel => exact ⟨k + 1, by omega, by omega, by go_num, hB2⟩
    · obtain rfl : k = n := by omega
      go_wp2_with fail
      go_ret
      exact ⟨rfl, hbel⟩
end Go.Proofs.YtkpoemfdepjkaaaDoor
