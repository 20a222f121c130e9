/- Contract of paths.Ways; the closed fact on ways. -/
import Derived.Test.YthbfeecbaanegaaApart
namespace Go.Proofs.Ythbfeecbaanegaa
open Go.RowKit
set_option linter.unusedVariables false
set_option linter.unusedSimpArgs false

def waysE (right up : Int) : Int := if outB 0 4 right = true ∨ outB 0 6 up = true then 1 else 0
def waysV (right up : Int) : Int := if waysE right up = 0 then waysZ right.toNat up else 0
theorem waysE_good {right up : Int} (h : waysE right up = 0) : 0 ≤ right ∧ right ≤ 4 ∧ 0 ≤ up ∧ up ≤ 6 := by
  unfold waysE at h
  by_cases hc : outB 0 4 right = true ∨ outB 0 6 up = true
  · rw [if_pos hc] at h; cases h
  · cases h1 : outB 0 4 right <;> cases h2 : outB 0 6 up
    · simp [outB] at h1 h2; omega
    · exact absurd (Or.inr h2) hc
    · exact absurd (Or.inl h1) hc
    · exact absurd (Or.inl h1) hc
theorem waysE_iff {right up : Int} (h0 : 0 ≤ right) (h1 : right ≤ 4) (h2 : 0 ≤ up) (h3 : up ≤ 6) : waysE right up = 0 := by
  unfold waysE
  rw [if_neg]
  simp [outB]
  omega
theorem waysE_bad {right up : Int} (h : ¬ (0 ≤ right ∧ right ≤ 4 ∧ 0 ≤ up ∧ up ≤ 6)) : waysE right up = 1 := by
  unfold waysE
  rw [if_pos]
  simp [outB]
  omega
set_option maxHeartbeats 1000000 in
theorem Ways_any (right up : Int) (w : World) :
    Calls Try.prog 4 #[.int .i64 right, .int .i64 up] w fun e w' => e = .returned (.tuple #[.int .i64 (waysV right up), errV (waysE right up)]) ∧ Below w.heap.size w w' := by
  by_cases h : waysE right up = 0
  · obtain ⟨h1, h2, h3, h4⟩ := waysE_good h
    have ho1 : outB 0 4 right = false := by simp [outB]; omega
    have ho2 : outB 0 6 up = false := by simp [outB]; omega
    have hv : waysV right up = waysZ right.toNat up := by unfold waysV; rw [if_pos h]
    rw [hv, h, errV_zero]
    obtain ⟨r, rfl⟩ := Int.eq_ofNat_of_zero_le h1
    have hr : r ≤ 4 := by omega
    simp only [Int.toNat_natCast]
    have HO1 := Lib.hid ho1
    have HO2 := Lib.hid ho2
    clear h hv ho1 ho2
    go_enter Try.func4, Try.ntmps4
    go_wp2_with fail
    go_at_call 8
    refine (Out_any' _ _ _ _).mono ?_
    rintro e w1 ⟨rfl, rfl⟩
    rw [HO1.out]
    go_wp2_with fail
    go_at_call 8
    refine (Out_any' _ _ _ _).mono ?_
    rintro e w1 ⟨rfl, rfl⟩
    rw [HO2.out]
    go_wp2_with fail
    go_at_call 9
    refine (Ways_of r up _ hr (by omega) h4).mono ?_
    rintro e w1 ⟨rfl, hb⟩
    go_wp2_with fail
    go_ret2
    exact ⟨rfl, hb⟩
  · have he : waysE right up = 1 := by unfold waysE at h ⊢; split at h <;> simp_all
    have hv : waysV right up = 0 := by unfold waysV; rw [if_neg h]
    rw [hv, he, errV_pos (by decide)]
    cases ho1 : outB 0 4 right
    · have ho2 : outB 0 6 up = true := by
        unfold waysE at he
        rw [ho1] at he
        cases h2 : outB 0 6 up
        · rw [h2] at he; simp at he
        · rfl
      have HO1 := Lib.hid ho1
      have HO2 := Lib.hid ho2
      clear h hv he ho1 ho2
      go_enter Try.func4, Try.ntmps4
      go_wp2_with fail
      go_at_call 8
      refine (Out_any' _ _ _ _).mono ?_
      rintro e w1 ⟨rfl, rfl⟩
      rw [HO1.out]
      go_wp2_with fail
      go_at_call 8
      refine (Out_any' _ _ _ _).mono ?_
      rintro e w1 ⟨rfl, rfl⟩
      rw [HO2.out]
      go_wp2_with fail
      go_ret2
      exact ⟨rfl, Below.refl _ _⟩
    · have HO1 := Lib.hid ho1
      clear h hv he ho1
      go_enter Try.func4, Try.ntmps4
      go_wp2_with fail
      go_at_call 8
      refine (Out_any' _ _ _ _).mono ?_
      rintro e w1 ⟨rfl, rfl⟩
      rw [HO1.out]
      go_wp2_with fail
      go_ret2
      exact ⟨rfl, Below.refl _ _⟩

/-- what the ways between two heights are -/
theorem way_at {w : Nat} {a b : Int} (hw : w ≤ 4) (h1 : 0 ≤ a) (h2 : a ≤ 6) (h3 : 0 ≤ b) (h4 : b ≤ 6) : (b < a → waysZ w (b - a) = 0) ∧ (a ≤ b → 1 ≤ waysZ w (b - a) ∧ waysZ w (b - a) ≤ 210 ∧ waysE w (b - a) = 0) := by
  obtain ⟨x, rfl⟩ := Int.eq_ofNat_of_zero_le h1
  obtain ⟨y, rfl⟩ := Int.eq_ofNat_of_zero_le h3
  obtain ⟨k1, k2, k3, k4, k5, k6⟩ := way_ok (w := w) (a := x) (a' := y) (by omega) (by omega) (by omega)
  rw [k1]
  exact ⟨fun h => k6 (by omega), fun h => ⟨k4 (by omega), k3, waysE_iff (by omega) (by omega) (by omega) (by omega)⟩⟩
theorem fact_paths : apartV 1 [0, 1] [1, 2] = 1 ∧ pathErr 1 [0, 1] [1, 2] = 0 ∧ waysV 2 2 = 6 ∧ waysE 2 2 = 0 := by decide +kernel
end Go.Proofs.Ythbfeecbaanegaa
