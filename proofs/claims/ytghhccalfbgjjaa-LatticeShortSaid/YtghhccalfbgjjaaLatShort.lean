/- The walk of the law LatticeShort: it returns true. -/
import Derived.Test.YtghhccalfbgjjaaLat2
namespace Go.Proofs.Ytghhccalfbgjjaa
open Go.RowKit LatMath
set_option linter.unusedVariables false
set_option linter.unusedSimpArgs false

theorem prod_bd {i a : Int} (hi : -1000 ≤ i ∧ i ≤ 1000) (ha : -1000 ≤ a ∧ a ≤ 1000) : -1000000 ≤ i * a ∧ i * a ≤ 1000000 := mul_bd i a 1000 1000 hi.1 hi.2 ha.1 ha.2
theorem sq_bd2 {x : Int} (h1 : -2000000 ≤ x) (h2 : x ≤ 2000000) : 0 ≤ x * x ∧ x * x ≤ 4000000000000 := ⟨sq_nn x, (mul_bd x x 2000000 2000000 h1 h2 h1 h2).2⟩

theorem inB_true {n lo hi : Int} (h : inB n lo hi = true) : lo ≤ n ∧ n ≤ hi := by simpa [inB] using h

theorem LatticeShort_wrong {a b c d i j : Int} (h : vecsErr a b c d ≠ 0) (w : World) :
    Calls Try.prog 3 #[vec a b, vec c d, .int .i64 i, .int .i64 j] w fun e w' => e = .returned (.bool true) ∧ Below w.heap.size w w' := by
  have hS := fun w => Short_wrong h w
  clear h
  generalize vecsErr a b c d = e at *
  go_enter Try.func3, Try.ntmps3
  go_wp2_with fail
  go_at_call 6
  refine (latticeFact_any _).mono ?_
  rintro e w1 ⟨rfl, hb⟩
  have hB := hb.mono (show w.heap.size + 2 ≤ _ from by simp)
  obtain ⟨hc, hf⟩ := rules hB
  clear hb
  go_wp2_with fail
  go_at_call 7
  refine (hS _).mono ?_
  rintro e w2 ⟨rfl, hb⟩
  have hB2 := step_below hB (by simp) hb
  clear hB hb hc hf hS
  go_wp2_with fail
  go_ret
  exact ⟨rfl, (((Below.refl _ _).alloc (Nat.le_refl _) _).alloc (by simp) _).trans (hB2.mono (by omega))⟩

set_option maxHeartbeats 1000000 in
theorem LatticeShort_good {a b c d i j : Int} (h : vecsErr a b c d = 0) (w : World) :
    Calls Try.prog 3 #[vec a b, vec c d, .int .i64 i, .int .i64 j] w fun e w' => e = .returned (.bool true) ∧ Below w.heap.size w w' := by
  have hS := fun w => Short_good h w
  obtain ⟨g1, g2, g3, g4⟩ := good_bd h
  have h0 := Lib.hid (vecsErr_good h).2.2
  clear h
  have bds : inB i (-1000) 1000 = true → inB j (-1000) 1000 = true → -1000000 ≤ i * a ∧ i * a ≤ 1000000 ∧ -1000000 ≤ j * c ∧ j * c ≤ 1000000 ∧ -1000000 ≤ i * b ∧ i * b ≤ 1000000 ∧ -1000000 ≤ j * d ∧ j * d ≤ 1000000 ∧
      (i * a + j * c) * (i * a + j * c) ≤ 4000000000000 ∧ (i * b + j * d) * (i * b + j * d) ≤ 4000000000000 ∧ 0 ≤ (i * a + j * c) * (i * a + j * c) ∧ 0 ≤ (i * b + j * d) * (i * b + j * d) := by
    intro hi hj
    obtain ⟨p1, p2⟩ := prod_bd (inB_true hi) g1
    obtain ⟨p3, p4⟩ := prod_bd (inB_true hj) g3
    obtain ⟨p5, p6⟩ := prod_bd (inB_true hi) g2
    obtain ⟨p7, p8⟩ := prod_bd (inB_true hj) g4
    obtain ⟨q1, q2⟩ := sq_bd2 (x := i * a + j * c) (by omega) (by omega)
    obtain ⟨q3, q4⟩ := sq_bd2 (x := i * b + j * d) (by omega) (by omega)
    exact ⟨p1, p2, p3, p4, p5, p6, p7, p8, q2, q4, q1, q3⟩
  have BDS := Lib.hid bds
  clear bds g1 g2 g3 g4
  go_enter Try.func3, Try.ntmps3
  go_wp2_with fail
  go_at_call 6
  refine (latticeFact_any _).mono ?_
  rintro e w1 ⟨rfl, hb⟩
  have hB := hb.mono (show w.heap.size + 2 ≤ _ from by simp)
  obtain ⟨hc, hf⟩ := rules hB
  clear hb
  go_wp2_with fail
  go_at_call 7
  refine (hS _).mono ?_
  rintro e w2 ⟨⟨A, C, rfl, hR⟩, hb⟩
  have hB2 := step_below hB (by simp) hb
  clear hB hb hc hf hS
  obtain ⟨hc, hf⟩ := rules hB2
  have hA := hR.pos h0.out
  have hAC : A ≤ C := by obtain ⟨_, _, _, _, _, _, _, hx, _⟩ := hR; exact hx
  have hL := Lib.hid (hR.least h0.out i j)
  clear hR
  cases hi : inB i (-1000) 1000
  · go_wp2_with (go_at_call 8; refine (in_any _ _ _ _).mono ?_; rintro e w' ⟨rfl, rfl⟩)
    go_ret
    exact ⟨rfl, (((Below.refl _ _).alloc (Nat.le_refl _) _).alloc (by simp) _).trans (hB2.mono (by omega))⟩
  · cases hj : inB j (-1000) 1000
    · go_wp2_with (go_at_call 8; refine (in_any _ _ _ _).mono ?_; rintro e w' ⟨rfl, rfl⟩)
      go_ret
      exact ⟨rfl, (((Below.refl _ _).alloc (Nat.le_refl _) _).alloc (by simp) _).trans (hB2.mono (by omega))⟩
    · obtain ⟨p1, p2, p3, p4, p5, p6, p7, p8, q1, q2, q3, q4⟩ := BDS.out hi hj
      have tri : (i = 0 ∧ j = 0) ∨ (i ≠ 0) ∨ (i = 0 ∧ j ≠ 0) := by omega
      rcases tri with ⟨rfl, rfl⟩ | hi0 | ⟨rfl, hj0⟩
      · go_wp2_with (go_at_call 8; refine (in_any _ _ _ _).mono ?_; rintro e w' ⟨rfl, rfl⟩)
        go_ret
        exact ⟨rfl, (((Below.refl _ _).alloc (Nat.le_refl _) _).alloc (by simp) _).trans (hB2.mono (by omega))⟩
      · have hL2 := hL.out (Or.inl hi0)
        go_wp2_with (go_at_call 8; refine (in_any _ _ _ _).mono ?_; rintro e w' ⟨rfl, rfl⟩)
        go_ret
        exact ⟨rfl, (((Below.refl _ _).alloc (Nat.le_refl _) _).alloc (by simp) _).trans (hB2.mono (by omega))⟩
      · have hL2 := hL.out (Or.inr hj0)
        simp only [Int.zero_mul, Int.zero_add] at hL2 q1 q2 q3 q4 p1 p2 p3 p4 p5 p6 p7 p8
        go_wp2_with (go_at_call 8; refine (in_any _ _ _ _).mono ?_; rintro e w' ⟨rfl, rfl⟩)
        all_goals
          go_ret
          exact ⟨rfl, (((Below.refl _ _).alloc (Nat.le_refl _) _).alloc (by simp) _).trans (hB2.mono (by omega))⟩

theorem LatticeShort_any (a b c d i j : Int) (w : World) :
    Calls Try.prog 3 #[vec a b, vec c d, .int .i64 i, .int .i64 j] w fun e w' => e = .returned (.bool true) ∧ Below w.heap.size w w' := by
  by_cases h : vecsErr a b c d = 0
  · exact LatticeShort_good h w
  · exact LatticeShort_wrong h w
end Go.Proofs.Ytghhccalfbgjjaa
