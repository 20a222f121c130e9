/- Plain law: the invariant factors of rows that are right. -/
import Derived.Test.YtllomialkiaccaaDoorSmMath
import Derived.Test.YtllomialkiaccaaDoorHerCheck
namespace Go.Proofs.YtllomialkiaccaaDoor
open Go.RowKit
set_option linter.unusedVariables false
set_option linter.unusedSimpArgs false

theorem div_range {n : Nat} {rows : List (List Int)} (h : HerOk n rows) {k : Nat} (h0 : 0 < k) (hk : k ≤ n) : 1 ≤ divV n k (fn rows) ∧ divV n k (fn rows) ≤ 48000 := by
  have h1 := div_det h0 hk h.le (fn rows)
  have h2 := div_nonneg n k (fn rows)
  have h3 := h.det
  have h4 := h.bd
  have h5 : divV n k (fn rows) ≠ 0 := fun e => by
    rw [e] at h1
    exact h3 (Int.zero_dvd.1 h1)
  have h6 : divV n k (fn rows) ≤ ((G (-1) n (fn rows)).natAbs : Int) := Int.le_of_dvd (by omega) (Int.dvd_natAbs.2 h1)
  omega
theorem last_range {n : Nat} {rows : List (List Int)} (h : HerOk n rows) {k : Nat} (hk : k ≤ n) : 1 ≤ lastV n (fn rows) k ∧ lastV n (fn rows) k ≤ 48000 := by
  cases k with
  | zero => exact ⟨show (1 : Int) ≤ 1 by decide, show (1 : Int) ≤ 48000 by decide⟩
  | succ k => exact div_range h (by omega) hk
/-- each divides the next one -/
theorem last_dvd {n : Nat} {rows : List (List Int)} (h : HerOk n rows) {k : Nat} (hk : k < n) : lastV n (fn rows) k ∣ divV n (k + 1) (fn rows) := by
  cases k with
  | zero => exact Int.one_dvd _
  | succ k =>
    have h1 := div_chain (n := n) (k := k) (by omega) h.le (fn rows)
    have hD := div_range h (k := k + 1) (by omega) (by omega)
    have hle := h.le
    have : (n = 2 ∧ k = 0) ∨ (n = 3 ∧ k = 0) ∨ (n = 3 ∧ k = 1) := by omega
    rcases this with ⟨rfl, rfl⟩ | ⟨rfl, rfl⟩ | ⟨rfl, rfl⟩
    · show divV 2 1 (fn rows) ∣ divV 2 2 (fn rows)
      rw [dvd_all (by omega) (by omega)]
      exact div_det (by omega) (by omega) (by omega) _
    · show divV 3 1 (fn rows) ∣ divV 3 2 (fn rows)
      have h1 : divV 3 1 (fn rows) * divV 3 1 (fn rows) ∣ 1 * divV 3 2 (fn rows) := h1
      rw [Int.one_mul] at h1
      exact Int.dvd_trans (Int.dvd_mul_right _ _) h1
    · show divV 3 2 (fn rows) ∣ divV 3 3 (fn rows)
      rw [dvd_all (by omega) (by omega)]
      exact div_det (by omega) (by omega) (by omega) _
theorem partsTo_len (n : Nat) (M : Nat → Nat → Int) : ∀ k, (partsTo n M k).length = k
  | 0 => rfl
  | k + 1 => by rw [partsTo, List.length_append, partsTo_len n M k]; rfl
theorem partsTo_at (n : Nat) (M : Nat → Nat → Int) : ∀ k i, i < k → (partsTo n M k).getD i 0 = (divV n (i + 1) M).tdiv (lastV n M i)
  | 0, i, h => by omega
  | k + 1, i, h => by
    have hl := partsTo_len n M k
    rw [partsTo]
    by_cases hi : i < k
    · rw [← partsTo_at n M k i hi]
      simp [List.getD, List.getElem?_append, hl, hi]
    · have : i = k := by omega
      subst this
      simp [List.getD, List.getElem?_append, hl]
/-- the factor s, and what it makes -/
theorem fac {n : Nat} {rows : List (List Int)} (h : HerOk n rows) {k : Nat} (hk : k < n) : ∃ q : Int, q = (divV n (k + 1) (fn rows)).tdiv (lastV n (fn rows) k) ∧ divV n (k + 1) (fn rows) = lastV n (fn rows) k * q ∧ 1 ≤ q ∧ q ≤ 48000 := by
  have h1 := last_dvd h hk
  have h2 := last_range h (k := k) (by omega)
  have h3 := div_range h (k := k + 1) (by omega) (by omega)
  obtain ⟨q, hq⟩ := h1
  refine ⟨q, ?_, hq, ?_, ?_⟩
  · rw [hq, Int.mul_tdiv_cancel_left _ (by omega)]
  · rcases Int.lt_or_le q 1 with hlt | hle
    · exfalso
      have : lastV n (fn rows) k * q ≤ lastV n (fn rows) k * 0 := Int.mul_le_mul_of_nonneg_left (by omega) (by omega)
      omega
    · exact hle
  · rcases Int.lt_or_le 48000 q with hlt | hle
    · exfalso
      have : 1 * q ≤ lastV n (fn rows) k * q := Int.mul_le_mul_of_nonneg_right (by omega) (by omega)
      omega
    · exact hle
/-- the product of the first k -/
def prodTo (n : Nat) (M : Nat → Nat → Int) : Nat → Int
  | 0 => 1
  | k + 1 => prodTo n M k * (partsTo n M n).getD k 0
theorem prod_last {n : Nat} {rows : List (List Int)} (h : HerOk n rows) : ∀ k, k ≤ n → prodTo n (fn rows) k = lastV n (fn rows) k
  | 0, _ => rfl
  | k + 1, hk => by
    obtain ⟨q, h1, h2, _⟩ := fac h (show k < n by omega)
    rw [prodTo, prod_last h k (by omega), partsTo_at n _ n k (by omega), ← h1, ← h2]
    rfl
theorem prod_all {n : Nat} {rows : List (List Int)} (h : HerOk n rows) : prodTo n (fn rows) n = ((G (-1) n (fn rows)).natAbs : Int) := by
  rw [prod_last h n (Nat.le_refl _)]
  have h0 := h.pos
  have : n = n - 1 + 1 := by omega
  rw [this]
  show divV (n - 1 + 1) (n - 1 + 1) _ = _
  rw [← this]
  exact div_all h.pos h.le _
/-- each factor divides the next one -/
theorem fac_dvd {n : Nat} {rows : List (List Int)} (h : HerOk n rows) {k : Nat} (hk : k + 1 < n) : (partsTo n (fn rows) n).getD k 0 ∣ (partsTo n (fn rows) n).getD (k + 1) 0 := by
  obtain ⟨q, h1, h2, _, _⟩ := fac h (show k < n by omega)
  obtain ⟨r, h4, h5, _, _⟩ := fac h hk
  rw [partsTo_at n _ n k (by omega), partsTo_at n _ n (k + 1) (by omega), ← h1, ← h4]
  have hc := div_chain (n := n) (k := k) hk h.le (fn rows)
  have h5 : divV n (k + 2) (fn rows) = divV n (k + 1) (fn rows) * r := h5
  have hL := last_range h (k := k) (by omega)
  rw [h5, h2] at hc
  generalize lastV n (fn rows) k = L at *
  obtain ⟨t, ht⟩ := hc
  -- L*q*(L*q)*t = L*(L*q*r)
  refine ⟨t, ?_⟩
  have hqne : q ≠ 0 := by omega
  have hLne : L ≠ 0 := by omega
  have e : (L * L * q) * r = (L * L * q) * (q * t) := by grind
  have hne : L * L * q ≠ 0 := Int.mul_ne_zero (Int.mul_ne_zero hLne hLne) hqne
  exact Int.eq_of_mul_eq_mul_left hne e
/-- the same divisors, the same factors -/
theorem partsTo_congr {n m : Nat} {M N : Nat → Nat → Int} (h : ∀ k, 0 < k → k ≤ n → divV n k M = divV n k N) : ∀ k, k ≤ n → partsTo n M k = partsTo n N k
  | 0, _ => rfl
  | k + 1, hk => by
    have hl : lastV n M k = lastV n N k := by
      cases k with
      | zero => rfl
      | succ k => exact h (k + 1) (by omega) (by omega)
    rw [partsTo, partsTo, partsTo_congr (m := m) h k (by omega), h (k + 1) (by omega) hk, hl]
end Go.Proofs.YtllomialkiaccaaDoor
