/- Plain law: a row is a sum of rows just if the determinant divides those in which it stands in a row's place (Cramer). No program in sight. -/
import Derived.Test.YtijlhdgagaehaaaDoorSmMath
import Derived.Test.YtijlhdgagaehaaaDoorHerMath
namespace Go.Proofs.YtijlhdgagaehaaaDoor
open Go.RowKit
set_option linter.unusedVariables false
set_option linter.unusedSimpArgs false

theorem cr_id1 {n : Nat} (h0 : 0 < n) (hn : n ≤ 3) (M : Nat → Nat → Int) (x : Nat → Int) (j : Nat) (hj : j < n) : sumTo (fun i => G (-1) n (setRow M i x) * M i j) n = G (-1) n M * x j := by
  have : n = 1 ∨ n = 2 ∨ n = 3 := by omega
  rcases this with rfl | rfl | rfl
  · obtain rfl : j = 0 := by omega
    simp [sumTo, G1, setRow]
    grind
  · have : j = 0 ∨ j = 1 := by omega
    rcases this with rfl | rfl <;> simp [sumTo, G2, m2, setRow] <;> grind
  · have : j = 0 ∨ j = 1 ∨ j = 2 := by omega
    rcases this with rfl | rfl | rfl <;> simp [sumTo, G3, m2, setRow] <;> grind
theorem cr_id2 {n : Nat} (h0 : 0 < n) (hn : n ≤ 3) (M : Nat → Nat → Int) (x c : Nat → Int) (hx : ∀ j, j < n → x j = sumTo (fun i => c i * M i j) n) (i : Nat) (hi : i < n) : G (-1) n (setRow M i x) = c i * G (-1) n M := by
  have : n = 1 ∨ n = 2 ∨ n = 3 := by omega
  rcases this with rfl | rfl | rfl
  · obtain rfl : i = 0 := by omega
    have e0 := hx 0 (by omega)
    simp [sumTo] at e0
    simp [G1, setRow, e0]
  · have e0 := hx 0 (by omega)
    have e1 := hx 1 (by omega)
    simp [sumTo] at e0 e1
    have : i = 0 ∨ i = 1 := by omega
    rcases this with rfl | rfl <;> simp [G2, m2, setRow, e0, e1] <;> grind
  · have e0 := hx 0 (by omega)
    have e1 := hx 1 (by omega)
    have e2 := hx 2 (by omega)
    simp [sumTo] at e0 e1 e2
    have : i = 0 ∨ i = 1 ∨ i = 2 := by omega
    rcases this with rfl | rfl | rfl <;> simp [G3, m2, setRow, e0, e1, e2] <;> grind
theorem cramer_iff {n : Nat} (h0 : 0 < n) (hn : n ≤ 3) (M : Nat → Nat → Int) (x : Nat → Int) (hD : G (-1) n M ≠ 0) : Lat n M x ↔ ∀ i, i < n → (G (-1) n (setRow M i x)).tmod (G (-1) n M) = 0 := by
  constructor
  · rintro ⟨c, hc⟩ i hi
    rw [cr_id2 h0 hn M x c hc i hi]
    exact Int.mul_tmod_left _ _
  · intro h
    have hd : ∀ i, i < n → G (-1) n (setRow M i x) = G (-1) n M * (G (-1) n (setRow M i x)).tdiv (G (-1) n M) := fun i hi => by
      have := Int.tmod_add_mul_tdiv (G (-1) n (setRow M i x)) (G (-1) n M)
      rw [h i hi] at this
      omega
    refine ⟨fun i => (G (-1) n (setRow M i x)).tdiv (G (-1) n M), fun j hj => ?_⟩
    have e := cr_id1 h0 hn M x j hj
    have e2 : sumTo (fun i => G (-1) n (setRow M i x) * M i j) n = G (-1) n M * sumTo (fun i => (G (-1) n (setRow M i x)).tdiv (G (-1) n M) * M i j) n := by
      rw [← sumTo_mul]
      refine sumTo_congr fun i hi => ?_
      have := hd i hi
      generalize (G (-1) n (setRow M i x)).tdiv (G (-1) n M) = q at *
      rw [this]
      grind
    rw [e2] at e
    exact (Int.eq_of_mul_eq_mul_left hD e).symm
/-- the same sums -/
theorem lat_same_iff {n : Nat} (M N : Nat → Nat → Int) : (∀ x, Lat n M x ↔ Lat n N x) ↔ ∀ i, i < n → Lat n M (N i) ∧ Lat n N (M i) :=
  ⟨fun h i hi => ⟨(h _).2 (lat_row N hi), (h _).1 (lat_row M hi)⟩, fun h x => ⟨fun k => lat_sub (fun i hi => (h i hi).2) k, fun k => lat_sub (fun i hi => (h i hi).1) k⟩⟩
end Go.Proofs.YtijlhdgagaehaaaDoor
