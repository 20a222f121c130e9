/- Contract of bareiss.of's inner function. -/
import Derived.Test.YtkelnkcigbghkaaPut
import Derived.Deep.LoopGhost
import Derived.BigQuiet
namespace Go.Proofs.Ytkelnkcigbghkaa
open Go.RowKit
set_option linter.unusedVariables false
set_option linter.unusedSimpArgs false

set_option maxHeartbeats 1000000 in
theorem Cross_any (c i j n Bm Bl G gi gc ri rc : Nat) (tij tcc tic tcj L q : Int) (w : World) (hc : c < n) (hi : i < n) (hj : j < n) (hm : w.cell? ⟨Bm, 0, none⟩ = some (.slice (some ⟨G, 0, none⟩) n n)) (hl : w.cell? ⟨Bl, 0, none⟩ = some (.int .i64 L))
    (hri : w.cell? ⟨G, i, none⟩ = some (.slice (some ⟨gi, 0, none⟩) n ri)) (hrc : w.cell? ⟨G, c, none⟩ = some (.slice (some ⟨gc, 0, none⟩) n rc))
    (h1 : w.cell? ⟨gi, j, none⟩ = some (.int .i64 tij)) (h2 : w.cell? ⟨gc, c, none⟩ = some (.int .i64 tcc)) (h3 : w.cell? ⟨gi, c, none⟩ = some (.int .i64 tic)) (h4 : w.cell? ⟨gc, j, none⟩ = some (.int .i64 tcj))
    (hL : L ≠ 0) (hq : tij * tcc - tic * tcj = L * q) (b1 : -100000000 ≤ tij) (b2 : tij ≤ 100000000) (b3 : -100000000 ≤ tcc) (b4 : tcc ≤ 100000000) (b5 : -100000000 ≤ tic) (b6 : tic ≤ 100000000) (b7 : -100000000 ≤ tcj) (b8 : tcj ≤ 100000000) (b9 : -100000000 ≤ q) (b10 : q ≤ 100000000) :
    Calls Try.prog 20 #[.int .i64 c, .int .i64 i, .int .i64 j, .pointer (some ⟨Bm, 0, none⟩), .pointer (some ⟨Bl, 0, none⟩)] w fun e w' => e = .returned (.int .i64 q) ∧ Below w.heap.size w w' := by
  have k1 := bd_mul (B := 100000000) (C := 100000000) b1 b2 b3 b4
  have k2 := bd_mul (B := 100000000) (C := 100000000) b5 b6 b7 b8
  obtain ⟨k11, k12⟩ := k1
  obtain ⟨k21, k22⟩ := k2
  obtain ⟨u, hu⟩ : ∃ u, u = tij * tcc := ⟨_, rfl⟩
  obtain ⟨v, hv⟩ : ∃ v, v = tic * tcj := ⟨_, rfl⟩
  rw [← hu] at hq k11 k12
  rw [← hv] at hq k21 k22
  have hw1 : IntKind.i64.wrap (tij * tcc) = u := by rw [← hu]; exact IntWalk.i64_in _ (by omega)
  have hw2 : IntKind.i64.wrap (tic * tcj) = v := by rw [← hv]; exact IntWalk.i64_in _ (by omega)
  have hw3 : IntKind.i64.wrap (u - v) = u - v := IntWalk.i64_in _ (by omega)
  have hd : (u - v).tdiv L = q := by rw [hq]; exact Int.mul_tdiv_cancel_left _ hL
  have hw4 : IntKind.i64.wrap q = q := IntWalk.i64_in _ (by omega)
  have hL0 : (L == 0) = false := by simp [hL]
  have hc0 : (0 : Int) ≤ c := by omega
  have hi0 : (0 : Int) ≤ i := by omega
  have hj0 : (0 : Int) ≤ j := by omega
  have hc1 : (c : Int) < n := by omega
  have hi1 : (i : Int) < n := by omega
  have hj1 : (j : Int) < n := by omega
  have z1 := World.block_lt_of_cell? _ _ hm
  have z2 := World.block_lt_of_cell? _ _ hl
  have z3 := World.block_lt_of_cell? _ _ hri
  have z4 := World.block_lt_of_cell? _ _ h1
  have z5 := World.block_lt_of_cell? _ _ h2
  dsimp only at z1 z2 z3 z4 z5
  have HQ := Lib.hid hq
  clear hq hu hv b1 b2 b3 b4 b5 b6 b7 b8
  go_enter Try.func20, Try.ntmps20
  go_wp2_with fail
  refine wp_region_quiet (C := Cls w.heap.size w) (by kernel_rfl) (by kernel_rfl) Cls.start ?_
  repeat
    (refine wpQuiet_step (fun K hK => ?_)
     go_simp
     first
       | (refine hK _ ?_; clear hK K)
       | (apply Exists.intro
          refine ⟨fun w' hC => ?_, hK _ ?_⟩
          · (obtain ⟨hr, hr2⟩ := hC.rules
             first
               | (fail)
               | (go_simp; done)
               | (go_simp; rfl))
          clear hK K))
  refine wpQuiet_nil ?_
  intro w2 hw2
  go_wp2_with fail
  go_ret
  exact ⟨rfl, hw2⟩
end Go.Proofs.Ytkelnkcigbghkaa
