/- Plain law: two-dimensional lattices. No program in sight. -/
import Derived.WalkKit
namespace Go.Proofs.YtkfkfpfcghobfaaDoor.LatMath
set_option linter.unusedVariables false
theorem sq_nn (x : Int) : 0 ≤ x * x := by
  rcases Int.le_total 0 x with h | h
  · exact Int.mul_nonneg h h
  · exact Int.mul_nonneg_of_nonpos_of_nonpos h h
theorem sq_pos {x : Int} (h : x ≠ 0) : 1 ≤ x * x := by
  rcases Int.lt_or_lt_of_ne h with h | h
  · have := Int.mul_pos_of_neg_of_neg h h; omega
  · have := Int.mul_pos h h; omega

/-- (x, y), (z, t) is another basis of the lattice of (a, b), (c, d) -/
def Uni (a b c d x y z t : Int) : Prop :=
  ∃ α β γ δ : Int, (α * δ - β * γ = 1 ∨ α * δ - β * γ = -1) ∧ x = α * a + β * c ∧ y = α * b + β * d ∧ z = γ * a + δ * c ∧ t = γ * b + δ * d

theorem Uni.refl (a b c d : Int) : Uni a b c d a b c d := ⟨1, 0, 0, 1, by omega, by omega, by omega, by omega, by omega⟩

theorem Uni.swap {a b c d x y z t : Int} (h : Uni a b c d x y z t) : Uni a b c d z t x y := by
  obtain ⟨α, β, γ, δ, h, h1, h2, h3, h4⟩ := h
  refine ⟨γ, δ, α, β, ?_, h3, h4, h1, h2⟩
  rcases h with h | h
  · right; grind
  · left; grind

theorem Uni.trans {a b c d x y z t p q r s : Int} (h : Uni a b c d x y z t) (k : Uni x y z t p q r s) : Uni a b c d p q r s := by
  obtain ⟨α, β, γ, δ, h, h1, h2, h3, h4⟩ := h
  obtain ⟨α', β', γ', δ', k, k1, k2, k3, k4⟩ := k
  subst h1 h2 h3 h4 k1 k2 k3 k4
  refine ⟨α' * α + β' * γ, α' * β + β' * δ, γ' * α + δ' * γ, γ' * β + δ' * δ, ?_, by grind, by grind, by grind, by grind⟩
  have e : (α' * α + β' * γ) * (γ' * β + δ' * δ) - (α' * β + β' * δ) * (γ' * α + δ' * γ) = (α' * δ' - β' * γ') * (α * δ - β * γ) := by grind
  rw [e]
  rcases h with h | h <;> rcases k with k | k <;> rw [h, k] <;> simp

theorem Uni.symm {a b c d x y z t : Int} (h : Uni a b c d x y z t) : Uni x y z t a b c d := by
  obtain ⟨α, β, γ, δ, h, h1, h2, h3, h4⟩ := h
  subst h1 h2 h3 h4
  rcases h with h | h
  · exact ⟨δ, -β, -γ, α, by left; grind, by grind, by grind, by grind, by grind⟩
  · exact ⟨-δ, β, γ, -α, by right; grind, by grind, by grind, by grind, by grind⟩

theorem Uni.shear1 (x y z t k : Int) : Uni x y z t x y (z - k * x) (t - k * y) := ⟨1, 0, -k, 1, by left; grind, by grind, by grind, by grind, by grind⟩
theorem Uni.shear {a b c d x y z t : Int} (h : Uni a b c d x y z t) (k : Int) : Uni a b c d x y (z - k * x) (t - k * y) := h.trans (Uni.shear1 x y z t k)

theorem Uni.cross {a b c d x y z t : Int} (h : Uni a b c d x y z t) : x * t - y * z = a * d - b * c ∨ x * t - y * z = -(a * d - b * c) := by
  obtain ⟨α, β, γ, δ, h, h1, h2, h3, h4⟩ := h
  subst h1 h2 h3 h4
  rcases h with h | h
  · left; grind
  · right; grind

/-- the least values of a reduced form -/
theorem red_low {A B C i j : Int} (h1 : 1 ≤ A) (h2 : A ≤ C) (h3 : -A ≤ 2 * B) (h4 : 2 * B ≤ A) (hj : j ≠ 0) : C ≤ A * (i * i) + 2 * B * (i * j) + C * (j * j) := by
  have key : ∀ I J : Int, 0 ≤ I → 1 ≤ J → C ≤ A * (I * I) - A * (I * J) + C * (J * J) := by
    intro I J hI hJ
    rcases Int.le_total J I with h | h
    · have e1 : 0 ≤ A * (I * (I - J)) := Int.mul_nonneg (by omega) (Int.mul_nonneg hI (by omega))
      have e2 : 0 ≤ C * (J * J - 1) := Int.mul_nonneg (by omega) (by have := sq_pos (show J ≠ 0 by omega); omega)
      grind
    · have e1 : 0 ≤ (C - A) * (I * (J - I)) := Int.mul_nonneg (by omega) (Int.mul_nonneg hI (by omega))
      have e3 : 0 ≤ C * (I * I - I * J + J * J - 1) := by
        refine Int.mul_nonneg (by omega) ?_
        have f1 : 0 ≤ J * (J - I) := Int.mul_nonneg (by omega) (by omega)
        rcases Int.lt_or_le 0 I with g | g
        · have := sq_pos (show I ≠ 0 by omega)
          have : I * I - I * J + J * J - 1 = J * (J - I) + I * I - 1 := by grind
          omega
        · have : I = 0 := by omega
          subst this
          have := sq_pos (show J ≠ 0 by omega)
          omega
      grind
  have two : -(A * (i.natAbs * j.natAbs)) ≤ 2 * B * (i * j) := by
    have hb : ((i * j).natAbs : Int) = i.natAbs * j.natAbs := by rw [Int.natAbs_mul]; simp
    rw [← hb]
    generalize i * j = m
    rcases Int.le_total 0 m with h | h
    · have : (m.natAbs : Int) = m := by omega
      rw [this]
      have := Int.mul_nonneg (show 0 ≤ 2 * B + A by omega) h
      grind
    · have : (m.natAbs : Int) = -m := by omega
      rw [this]
      have := Int.mul_nonneg (show 0 ≤ A - 2 * B by omega) (show 0 ≤ -m by omega)
      grind
  have k := key i.natAbs j.natAbs (by omega) (by omega)
  have e1 : (i.natAbs : Int) * i.natAbs = i * i := Int.natAbs_mul_self
  have e2 : (j.natAbs : Int) * j.natAbs = j * j := Int.natAbs_mul_self
  rw [e1, e2] at k
  omega

/-- A and C are the squared lengths of a reduced basis of the lattice -/
def RedOf (a b c d A C : Int) : Prop :=
  ∃ x y z t, Uni a b c d x y z t ∧ A = x * x + y * y ∧ C = z * z + t * t ∧ A ≤ C ∧ -A ≤ 2 * (x * z + y * t) ∧ 2 * (x * z + y * t) ≤ A

theorem RedOf.of_uni {a b c d a' b' c' d' A C : Int} (h : RedOf a' b' c' d' A C) (k : Uni a b c d a' b' c' d') : RedOf a b c d A C := by
  obtain ⟨x, y, z, t, h1, h2⟩ := h
  exact ⟨x, y, z, t, k.trans h1, h2⟩

theorem sq_sum (x y z t p q : Int) : (p * x + q * z) * (p * x + q * z) + (p * y + q * t) * (p * y + q * t) = (x * x + y * y) * (p * p) + 2 * (x * z + y * t) * (p * q) + (z * z + t * t) * (q * q) := by grind

theorem RedOf.pos {a b c d A C : Int} (h : RedOf a b c d A C) (h0 : a * d - b * c ≠ 0) : 1 ≤ A := by
  obtain ⟨x, y, z, t, h1, h2, h3, h4, h5, h6⟩ := h
  have hc := h1.cross
  have : x ≠ 0 ∨ y ≠ 0 := by
    by_cases hx : x = 0
    · by_cases hy : y = 0
      · subst hx hy; simp at hc; omega
      · exact Or.inr hy
    · exact Or.inl hx
  have s1 := sq_nn x
  have s2 := sq_nn y
  rcases this with h | h
  · have := sq_pos h; omega
  · have := sq_pos h; omega

theorem RedOf.le {a b c d A C A' C' : Int} (h : RedOf a b c d A C) (k : RedOf a b c d A' C') (h0 : a * d - b * c ≠ 0) : A ≤ A' ∧ C ≤ C' := by
  have hp := h.pos h0
  obtain ⟨x, y, z, t, h1, h2, h3, h4, h5, h6⟩ := h
  obtain ⟨x', y', z', t', k1, k2, k3, k4, k5, k6⟩ := k
  obtain ⟨α, β, γ, δ, hd, e1, e2, e3, e4⟩ := h1.symm.trans k1
  have f1 : A' = A * (α * α) + 2 * (x * z + y * t) * (α * β) + C * (β * β) := by rw [k2, e1, e2, h2, h3]; exact sq_sum _ _ _ _ _ _
  have f2 : C' = A * (γ * γ) + 2 * (x * z + y * t) * (γ * δ) + C * (δ * δ) := by rw [k3, e3, e4, h2, h3]; exact sq_sum _ _ _ _ _ _
  by_cases hβ : β = 0
  · subst hβ
    have hα : α ≠ 0 := by rintro rfl; simp at hd
    have hδ : δ ≠ 0 := by rintro rfl; simp at hd
    have := sq_pos hα
    have r2 := red_low (i := γ) hp h4 h5 h6 hδ
    refine ⟨?_, by omega⟩
    have : 0 ≤ A * (α * α - 1) := Int.mul_nonneg (by omega) (by omega)
    grind
  · have r1 := red_low (i := α) hp h4 h5 h6 hβ
    exact ⟨by omega, by omega⟩

theorem RedOf.unique {a b c d A C A' C' : Int} (h : RedOf a b c d A C) (k : RedOf a b c d A' C') (h0 : a * d - b * c ≠ 0) : A = A' ∧ C = C' := by
  have l1 := h.le k h0
  have l2 := k.le h h0
  omega

theorem cramer1 (i j α β γ δ : Int) : i * (α * δ - β * γ) = (i * α + j * γ) * δ - (i * β + j * δ) * γ := by grind
theorem cramer2 (i j α β γ δ : Int) : j * (α * δ - β * γ) = (i * β + j * δ) * α - (i * α + j * γ) * β := by grind

/-- no lattice vector but 0 is shorter -/
theorem RedOf.least {a b c d A C : Int} (h : RedOf a b c d A C) (h0 : a * d - b * c ≠ 0) (i j : Int) (hij : i ≠ 0 ∨ j ≠ 0) :
    A ≤ (i * a + j * c) * (i * a + j * c) + (i * b + j * d) * (i * b + j * d) := by
  have hp := h.pos h0
  obtain ⟨x, y, z, t, h1, h2, h3, h4, h5, h6⟩ := h
  obtain ⟨α, β, γ, δ, hd, e1, e2, e3, e4⟩ := h1.symm
  have g1 : i * a + j * c = (i * α + j * γ) * x + (i * β + j * δ) * z := by rw [e1, e3]; grind
  have g2 : i * b + j * d = (i * α + j * γ) * y + (i * β + j * δ) * t := by rw [e2, e4]; grind
  rw [g1, g2, sq_sum, ← h2, ← h3]
  by_cases hq : i * β + j * δ = 0
  · have hpp : i * α + j * γ ≠ 0 := by
      intro hpp
      have w1 : i * (α * δ - β * γ) = 0 := by rw [cramer1 i j α β γ δ, hpp, hq]; simp
      have w2 : j * (α * δ - β * γ) = 0 := by rw [cramer2 i j α β γ δ, hpp, hq]; simp
      rcases hd with hd | hd <;> rw [hd] at w1 w2 <;> omega
    rw [hq]
    have := sq_pos hpp
    have : 0 ≤ A * ((i * α + j * γ) * (i * α + j * γ) - 1) := Int.mul_nonneg (by omega) (by omega)
    grind
  · have := red_low (i := i * α + j * γ) hp h4 h5 h6 hq
    omega

/-- Hermite -/
theorem RedOf.area {a b c d A C : Int} (h : RedOf a b c d A C) : (a * d - b * c) * (a * d - b * c) ≤ A * C ∧ 3 * (A * C) ≤ 4 * ((a * d - b * c) * (a * d - b * c)) := by
  obtain ⟨x, y, z, t, h1, h2, h3, h4, h5, h6⟩ := h
  have hc := h1.cross
  have e : (a * d - b * c) * (a * d - b * c) = (x * t - y * z) * (x * t - y * z) := by
    rcases hc with hc | hc <;> rw [hc]; grind
  rw [e]
  have id : A * C = (x * t - y * z) * (x * t - y * z) + (x * z + y * t) * (x * z + y * t) := by rw [h2, h3]; grind
  generalize x * z + y * t = B at *
  generalize x * t - y * z = N at *
  have s := sq_nn B
  have hA : 0 ≤ A := by omega
  have b1 : 0 ≤ (A - 2 * B) * (A + 2 * B) := Int.mul_nonneg (by omega) (by omega)
  have b2 : 0 ≤ A * (C - A) := Int.mul_nonneg hA (by omega)
  have b1' : 4 * (B * B) ≤ A * A := by grind
  have b2' : A * A ≤ A * C := by grind
  omega

/-- rounding -/
theorem near_step {A B k : Int} (hA : 1 ≤ A) (h1 : 2 * A * k ≤ 2 * B + A) (h2 : 2 * B + A < 2 * A * k + 2 * A) : k * (k * A - 2 * B) ≤ 0 := by
  have e : 2 * A * k = 2 * (k * A) := by grind
  rw [e] at h1 h2
  rcases Int.lt_or_le 0 k with h | h
  · have : A ≤ k * A := by have := Int.mul_nonneg (show 0 ≤ k - 1 by omega) (show 0 ≤ A by omega); grind
    have : k * A - 2 * B ≤ 0 := by omega
    exact Int.mul_nonpos_of_nonneg_of_nonpos (by omega) this
  · by_cases hk : k = 0
    · subst hk; simp
    · have : k * A + A ≤ 0 := by have := Int.mul_nonneg (show 0 ≤ -1 - k by omega) (show 0 ≤ A by omega); grind
      have : 0 ≤ k * A - 2 * B := by omega
      exact Int.mul_nonpos_of_nonpos_of_nonneg (by omega) this

theorem near_stop {A B k : Int} (hA : 1 ≤ A) (h1 : 2 * A * k ≤ 2 * B + A) (h2 : 2 * B + A < 2 * A * k + 2 * A) (h3 : 0 ≤ k * (k * A - 2 * B)) : -A ≤ 2 * B ∧ 2 * B ≤ A := by
  have e : 2 * A * k = 2 * (k * A) := by grind
  rw [e] at h1 h2
  rcases Int.lt_or_le 0 k with h | h
  · have g : 0 ≤ k * A - 2 * B := by
      rcases Int.lt_or_le (k * A - 2 * B) 0 with g | g
      · have := Int.mul_neg_of_pos_of_neg h g; omega
      · exact g
    have : A ≤ k * A := by have := Int.mul_nonneg (show 0 ≤ k - 1 by omega) (show 0 ≤ A by omega); grind
    omega
  · by_cases hk : k = 0
    · subst hk; simp at h1 h2; omega
    · have g : k * A - 2 * B ≤ 0 := by
        rcases Int.lt_or_le 0 (k * A - 2 * B) with g | g
        · have := Int.mul_neg_of_neg_of_pos (show k < 0 by omega) g; omega
        · exact g
      have : k * A + A ≤ 0 := by have := Int.mul_nonneg (show 0 ≤ -1 - k by omega) (show 0 ≤ A by omega); grind
      omega

theorem near_facts (A B : Int) (hA : 1 ≤ A) : (2 * B + A) / (2 * A) * ((2 * B + A) / (2 * A) * A - 2 * B) ≤ 0 ∧ (0 ≤ (2 * B + A) / (2 * A) * ((2 * B + A) / (2 * A) * A - 2 * B) → -A ≤ 2 * B ∧ 2 * B ≤ A) := by
  have h := Int.mul_ediv_add_emod (2 * B + A) (2 * A)
  have hm0 := Int.emod_nonneg (2 * B + A) (show 2 * A ≠ 0 by omega)
  have hm1 := Int.emod_lt_of_pos (2 * B + A) (show 0 < 2 * A by omega)
  generalize (2 * B + A) / (2 * A) = k at *
  generalize (2 * B + A) % (2 * A) = m at *
  exact ⟨near_step hA (by omega) (by omega), near_stop hA (by omega) (by omega)⟩

theorem next_sq (x y z t k : Int) : (z - k * x) * (z - k * x) + (t - k * y) * (t - k * y) = z * z + t * t + k * (k * (x * x + y * y) - 2 * (x * z + y * t)) := by grind
end Go.Proofs.YtkfkfpfcghobfaaDoor.LatMath
