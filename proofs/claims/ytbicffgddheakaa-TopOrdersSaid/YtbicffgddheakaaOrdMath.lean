/- Plain law: of numbers from 0 on. No program in sight. -/
import Derived.Test.YtbicffgddheakaaPairs
namespace Go.Proofs.Ytbicffgddheakaa
open Go.RowKit
set_option linter.unusedVariables false
set_option linter.unusedSimpArgs false

theorem sumTo_le {f g : Nat → Int} {n : Nat} (h : ∀ i, i < n → f i ≤ g i) : sumTo f n ≤ sumTo g n := by
  induction n with
  | zero => exact Int.le_refl _
  | succ n ih =>
    have h1 := ih (fun i hi => h i (by omega))
    have h2 := h n (by omega)
    rw [sumTo, sumTo]
    omega
theorem sumTo_nonneg {f : Nat → Int} {n : Nat} (h : ∀ i, i < n → 0 ≤ f i) : 0 ≤ sumTo f n := by
  have := sumTo_le (f := fun _ => 0) (g := f) h
  rwa [sumTo_zero] at this
theorem sumTo_zero_iff {f : Nat → Int} {n : Nat} (h : ∀ i, i < n → 0 ≤ f i) : sumTo f n = 0 ↔ ∀ i, i < n → f i = 0 := by
  induction n with
  | zero => simp [sumTo]
  | succ n ih =>
    have h1 := sumTo_nonneg (f := f) (n := n) (fun i hi => h i (by omega))
    have h2 := h n (by omega)
    rw [sumTo]
    constructor
    · intro he i hi
      by_cases hin : i < n
      · exact (ih (fun i hi => h i (by omega))).1 (by omega) i hin
      · obtain rfl : i = n := by omega
        omega
    · intro he
      rw [(ih (fun i hi => h i (by omega))).2 (fun i hi => he i (by omega)), he n (by omega)]
      rfl

theorem perm_nonneg (n : Nat) : ∀ {M : Nat → Nat → Int}, (∀ i j, i < n → j < n → 0 ≤ M i j) → 0 ≤ G 1 n M := by
  induction n with
  | zero => intro M _; simp [G]
  | succ n ih =>
    intro M h
    rw [G]
    refine sumTo_nonneg fun j hj => ?_
    rw [pw_one, Int.one_mul]
    exact Int.mul_nonneg (h 0 j (by omega) hj) (ih fun a b ha hb => h _ _ (by unfold sk; split <;> omega) (by unfold sk; split <;> omega))
/-- with signs it is no more than without -/
theorem det_le_perm (n : Nat) : ∀ {M : Nat → Nat → Int}, (∀ i j, i < n → j < n → 0 ≤ M i j) → -(G 1 n M) ≤ G (-1) n M ∧ G (-1) n M ≤ G 1 n M := by
  induction n with
  | zero => intro M _; simp [G]
  | succ n ih =>
    intro M h
    have key : ∀ j, j < n + 1 → -(pw 1 j * M 0 j * G 1 n (minor M 0 j)) ≤ pw (-1) j * M 0 j * G (-1) n (minor M 0 j) ∧ pw (-1) j * M 0 j * G (-1) n (minor M 0 j) ≤ pw 1 j * M 0 j * G 1 n (minor M 0 j) := by
      intro j hj
      have hm : ∀ a b, a < n → b < n → 0 ≤ minor M 0 j a b := fun a b ha hb => h _ _ (by unfold sk; split <;> omega) (by unfold sk; split <;> omega)
      obtain ⟨h1, h2⟩ := ih hm
      have h0 := h 0 j (by omega) hj
      have hx : -(M 0 j * G 1 n (minor M 0 j)) ≤ M 0 j * G (-1) n (minor M 0 j) := by rw [← Int.mul_neg]; exact Int.mul_le_mul_of_nonneg_left h1 h0
      have hy : M 0 j * G (-1) n (minor M 0 j) ≤ M 0 j * G 1 n (minor M 0 j) := Int.mul_le_mul_of_nonneg_left h2 h0
      have hp : pw (-1) j = 1 ∨ pw (-1) j = -1 := by
        clear hm h1 h2 h0 hx hy hj ih h
        induction j with
        | zero => left; rfl
        | succ j ih => rcases ih with e | e <;> simp [pw, e]
      rw [pw_one, Int.one_mul]
      rcases hp with e | e
      · rw [e, Int.one_mul]; exact ⟨hx, hy⟩
      · rw [e, show (-1 : Int) * M 0 j * G (-1) n (minor M 0 j) = -(M 0 j * G (-1) n (minor M 0 j)) by rw [Int.mul_assoc, Int.neg_mul, Int.one_mul]]
        omega
    rw [G, G]
    constructor
    · have := sumTo_le (f := fun j => -(pw 1 j * M 0 j * G 1 n (minor M 0 j))) (fun j hj => (key j hj).1)
      have e : sumTo (fun j => -(pw 1 j * M 0 j * G 1 n (minor M 0 j))) (n + 1) = -sumTo (fun j => pw 1 j * M 0 j * G 1 n (minor M 0 j)) (n + 1) := by
        have := sumTo_mul (-1) (fun j => pw 1 j * M 0 j * G 1 n (minor M 0 j)) (n + 1)
        rw [Int.neg_mul, Int.one_mul] at this
        rw [← this]
        exact sumTo_congr fun j _ => by rw [Int.neg_mul, Int.one_mul]
      rw [e] at this
      exact this
    · exact sumTo_le fun j hj => (key j hj).2
/-- as many ways to pair as there are of 1: no more, and none just if there is none -/
theorem ones_perm (n : Nat) : ∀ {M : Nat → Nat → Int}, (∀ i j, i < n → j < n → 0 ≤ M i j) → G 1 n (onesF M) ≤ G 1 n M ∧ (G 1 n (onesF M) = 0 ↔ G 1 n M = 0) := by
  induction n with
  | zero => intro M _; simp [G]
  | succ n ih =>
    intro M h
    have e : ∀ j, minor (onesF M) 0 j = onesF (minor M 0 j) := fun j => rfl
    have hm : ∀ j, j < n + 1 → ∀ a b, a < n → b < n → 0 ≤ minor M 0 j a b := fun j hj a b ha hb => h _ _ (by unfold sk; split <;> omega) (by unfold sk; split <;> omega)
    have ho : ∀ j, j < n + 1 → ∀ a b, a < n → b < n → 0 ≤ onesF (minor M 0 j) a b := fun j hj a b _ _ => by unfold onesF; split <;> omega
    have t1 : ∀ j, j < n + 1 → 0 ≤ pw 1 j * M 0 j * G 1 n (minor M 0 j) := fun j hj => by
      rw [pw_one, Int.one_mul]; exact Int.mul_nonneg (h 0 j (by omega) hj) (perm_nonneg n (hm j hj))
    have t2 : ∀ j, j < n + 1 → 0 ≤ pw 1 j * onesF M 0 j * G 1 n (minor (onesF M) 0 j) := fun j hj => by
      rw [pw_one, Int.one_mul, e]; exact Int.mul_nonneg (by unfold onesF; split <;> omega) (perm_nonneg n (ho j hj))
    rw [G, G]
    refine ⟨sumTo_le fun j hj => ?_, ?_⟩
    · rw [pw_one, Int.one_mul, Int.one_mul, e]
      have h1 := (ih (hm j hj)).1
      have h2 := perm_nonneg n (ho j hj)
      have h3 := perm_nonneg n (hm j hj)
      have h0 := h 0 j (by omega) hj
      unfold onesF
      by_cases hz : M 0 j = 0
      · rw [if_pos hz, hz]; omega
      · rw [if_neg hz, Int.one_mul]
        have : 1 * G 1 n (minor M 0 j) ≤ M 0 j * G 1 n (minor M 0 j) := Int.mul_le_mul_of_nonneg_right (by omega) h3
        have h4 : G 1 n (onesF (minor M 0 j)) ≤ G 1 n (minor M 0 j) := h1
        have h5 : (G 1 n fun i j_1 => if minor M 0 j i j_1 = 0 then 0 else 1) = G 1 n (onesF (minor M 0 j)) := rfl
        rw [h5]
        omega
    · rw [sumTo_zero_iff t2, sumTo_zero_iff t1]
      have key : ∀ j, j < n + 1 → (pw 1 j * onesF M 0 j * G 1 n (minor (onesF M) 0 j) = 0 ↔ pw 1 j * M 0 j * G 1 n (minor M 0 j) = 0) := by
        intro j hj
        rw [pw_one, Int.one_mul, Int.one_mul, e, Int.mul_eq_zero, Int.mul_eq_zero, (ih (hm j hj)).2]
        have : onesF M 0 j = 0 ↔ M 0 j = 0 := by unfold onesF; split <;> simp [*]
        rw [this]
      exact ⟨fun H j hj => (key j hj).1 (H j hj), fun H j hj => (key j hj).2 (H j hj)⟩
end Go.Proofs.Ytbicffgddheakaa
