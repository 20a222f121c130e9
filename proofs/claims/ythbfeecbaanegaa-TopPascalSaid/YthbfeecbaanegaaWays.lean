/- Contract of paths.ways. -/
import Derived.Test.YthbfeecbaanegaaMem
import Derived.Test.YthbfeecbaanegaaWaysMath
import Derived.Deep.LoopGhost
import Derived.StillTailTactics
namespace Go.Proofs.Ythbfeecbaanegaa
open Go.RowKit
set_option linter.unusedVariables false
set_option linter.unusedSimpArgs false

theorem cell_other (w : World) (G i j : Nat) (v : Value) (h : i ≠ j) : (w.setCell ⟨G, i, none⟩ v).cell? ⟨G, j, none⟩ = w.cell? ⟨G, j, none⟩ := by
  apply World.cell?_setCell_other
  intro e
  injection e with e1 e2
  exact h e2

/-- seven numbers in a block: t rounds are over, and of the next one what is before i -/
structure WaysAt (w wr : World) (G t i : Nat) : Prop where
  cell : ∀ j, j < 7 → wr.cell? ⟨G, j, none⟩ = some (.int .i64 (if j < i then waysT (t + 1) j else waysT t j))
  free : ∀ j, wr.frozen? ⟨G, j, none⟩ = false
  bel : Below w.heap.size w wr
  base : w.heap.size ≤ G

theorem WaysAt.next {w wr : World} {G t i : Nat} (h : WaysAt w wr G t i) (hi : 0 < i) (hi7 : i < 7) : WaysAt w (wr.setCell ⟨G, i, none⟩ (.int .i64 (waysT (t + 1) i))).drew G t (i + 1) := by
  refine ⟨fun j hj => ?_, fun j => ?_, (h.bel.setCell (p := ⟨G, i, none⟩) h.base _).trans ⟨rfl, rfl, rfl, Nat.le_refl _, fun _ _ => rfl⟩, h.base⟩
  · show (wr.setCell ⟨G, i, none⟩ _).cell? ⟨G, j, none⟩ = _
    by_cases hij : i = j
    · subst hij
      rw [World.cell?_setCell_same' _ _ _ (by rw [h.cell i hj]; rfl), if_pos (by omega)]
    · rw [cell_other wr G i j _ hij, h.cell j hj]
      by_cases hlt : j < i
      · rw [if_pos hlt, if_pos (by omega)]
      · rw [if_neg hlt, if_neg (by omega)]
  · show (wr.setCell ⟨G, i, none⟩ _).frozen? ⟨G, j, none⟩ = _
    rw [World.frozen?_setCell]; exact h.free j
theorem WaysAt.round {w wr : World} {G t : Nat} (h : WaysAt w wr G t 7) : WaysAt w wr G (t + 1) 1 := by
  refine ⟨fun j hj => ?_, h.free, h.bel, h.base⟩
  rw [h.cell j hj, if_pos hj]
  by_cases hlt : j < 1
  · obtain rfl : j = 0 := by omega
    rw [if_pos hlt, waysT_zero, waysT_zero]
  · rw [if_neg hlt]

set_option maxHeartbeats 1000000 in
theorem Ways_of (right : Nat) (up : Int) (w : World) (hr : right ≤ 4) (h1 : -6 ≤ up) (h2 : up ≤ 6) :
    Calls Try.prog 9 #[.int .i64 right, .int .i64 up] w fun e w' => e = .returned (.int .i64 (waysZ right up)) ∧ Below w.heap.size w w' := by
  by_cases hu : up < 0
  · have hv : waysZ right up = 0 := by unfold waysZ; rw [if_pos hu]
    rw [hv]
    go_enter Try.func9, Try.ntmps9
    go_wp2_with fail
    go_ret
    exact ⟨rfl, Below.refl _ _⟩
  · have hu0 : 0 ≤ up := by omega
    obtain ⟨u, rfl⟩ := Int.eq_ofNat_of_zero_le hu0
    have hv : waysZ right u = waysT (right + 1) u := by unfold waysZ; rw [if_neg (by omega), Int.toNat_natCast]
    rw [hv]
    clear hv
    go_enter Try.func9, Try.ntmps9
    go_wp2_with fail
    have hW : WaysAt w (w.alloc (.cells #[.int .i64 1, .int .i64 0, .int .i64 0, .int .i64 0, .int .i64 0, .int .i64 0, .int .i64 0] 40)) w.heap.size 0 1 := by
      refine ⟨fun j hj => ?_, fun j => by go_simp, (Below.refl _ w).alloc (Nat.le_refl _) _, Nat.le_refl _⟩
      have hc : j = 0 ∨ j = 1 ∨ j = 2 ∨ j = 3 ∨ j = 4 ∨ j = 5 ∨ j = 6 := by omega
      rcases hc with rfl | rfl | rfl | rfl | rfl | rfl | rfl <;> (go_simp; try rfl)
    have HW := Lib.hid hW
    generalize (w.alloc (.cells #[.int .i64 1, .int .i64 0, .int .i64 0, .int .i64 0, .int .i64 0, .int .i64 0, .int .i64 0] 40)) = W0 at *
    clear hW
    have hr0 : (0 : Int) ≤ right := by omega
    have hr4 : (right : Int) ≤ 4 := by omega
    have hu6 : (u : Int) < 7 := by omega
    go_loopg [12] (right + 2) (fun g i wr => ∃ t : Nat, t ≤ right + 1 ∧ right + 1 - t < g ∧ i = .int .i64 t ∧ WaysAt w wr w.heap.size t 1)
    case atStart => exact ⟨0, by omega, by omega, rfl, HW.out⟩
    case round =>
      obtain ⟨t, ht, hg, rfl, hW⟩ := hrel
      have HT := Lib.hid hW
      clear hW HW
      have hz0 : w.heap.size < wr.heap.size := World.block_lt_of_cell? _ _ (HT.out.cell 0 (by omega))
      by_cases hlt : t < right + 1
      · have hti : (t : Int) < (right : Int) + 1 := by omega
        go_wp2_with fail
        go_loopg [6] 8 (fun g i wr => ∃ k : Nat, 1 ≤ k ∧ k ≤ 7 ∧ 7 - k < g ∧ i = .int .i64 k ∧ WaysAt w wr w.heap.size t k)
        case atStart => exact ⟨1, by omega, by omega, by omega, rfl, HT.out⟩
        case round =>
          obtain ⟨k, hk1, hk7, hgk, rfl, hW⟩ := hrel
          have HK := Lib.hid hW
          clear hW
          by_cases hk : k < 7
          · have c1 := HK.out.cell k hk
            have c2 := HK.out.cell (k - 1) (by omega)
            rw [if_neg (by omega)] at c1
            rw [if_pos (by omega)] at c2
            have f1 := HK.out.free k
            obtain ⟨x, hx⟩ : ∃ x, x = waysT t k := ⟨_, rfl⟩
            obtain ⟨y, hy⟩ : ∃ y, y = waysT (t + 1) (k - 1) := ⟨_, rfl⟩
            rw [← hx] at c1
            rw [← hy] at c2
            have bx := waysT_bd t (by omega) k (by omega)
            have by' := waysT_bd (t + 1) (by omega) (k - 1) (by omega)
            rw [← hx] at bx
            rw [← hy] at by'
            obtain ⟨bx1, bx2⟩ := bx
            obtain ⟨by1, by2⟩ := by'
            have hsum : x + y = waysT (t + 1) k := by
              rw [hx, hy]
              obtain ⟨q, rfl⟩ : ∃ q, k = q + 1 := ⟨k - 1, by omega⟩
              rw [waysT_succ]
              rfl
            have HN := Lib.hid (HK.out.next (by omega) hk)
            rw [← hsum] at HN
            have hk0 : (0 : Int) ≤ k := by omega
            have hki : (k : Int) < 7 := by omega
            have hk11 : (1 : Int) ≤ k := by omega
            have hkt : ((k : Int) - 1).toNat = k - 1 := by omega
            have hk8 : (k : Int) < 8 := by omega
            have hk10 : (0 : Int) ≤ (k : Int) - 1 := by omega
            have hk9 : (k : Int) - 1 < 7 := by omega
            have hw1 : IntKind.i64.wrap (x + y) = x + y := IntWalk.i64_in _ (by omega)
            have hw2 : IntKind.i64.wrap ((k : Int) - 1) = (k : Int) - 1 := IntWalk.i64_in _ (by omega)
            clear hx hy hsum
            go_wp2_with fail
            go_still_tail 9, (by kernel_rfl)
            go_wp2_with fail
            go_roundg (7 - k)
            case measure => omega
            case rel => exact ⟨k + 1, by omega, by omega, by omega, by go_num, HN.out⟩
          · obtain rfl : k = 7 := by omega
            go_wp2_with fail
            go_roundg (right + 1 - t)
            case measure => omega
            case rel => exact ⟨t + 1, by omega, by omega, by go_num, HK.out.round⟩
      · obtain rfl : t = right + 1 := by omega
        have c1 := HT.out.cell u (by omega)
        have hv : (if u < 1 then waysT (right + 1 + 1) u else waysT (right + 1) u) = waysT (right + 1) u := by
          by_cases h : u < 1
          · obtain rfl : u = 0 := by omega
            rw [if_pos h, waysT_zero, waysT_zero]
          · rw [if_neg h]
        rw [hv] at c1
        obtain ⟨r, hrr⟩ : ∃ r, r = waysT (right + 1) u := ⟨_, rfl⟩
        rw [← hrr] at c1
        have HRR := Lib.hid hrr
        clear hv hrr
        go_wp2_with fail
        go_ret
        exact ⟨ret_int HRR.out, HT.out.bel⟩
end Go.Proofs.Ythbfeecbaanegaa
