/- Plain law: the square of a Pfaffian is the determinant (to six rows). No program in sight. -/
import Derived.Test.YtdpdopgngpamnaaPfMath
namespace Go.Proofs.Ytdpdopgngpamnaa
open Go.RowKit
set_option linter.unusedVariables false
set_option linter.unusedSimpArgs false

theorem skew_full (n : Nat) (M : Nat → Nat → Int) (h : Skew n M) : G (-1) n M = G (-1) n (fun a b => if a < b then M a b else if b < a then -M b a else 0) := by
  refine G_congr (-1) n fun i j hi hj => ?_
  by_cases h1 : i < j
  · rw [if_pos h1]
  · rw [if_neg h1]
    by_cases h2 : j < i
    · rw [if_pos h2]; exact h j i hj hi
    · obtain rfl : i = j := by omega
      rw [if_neg h2]; exact h.diag hi

set_option maxHeartbeats 40000000 in
theorem pf_sq4 (M : Nat → Nat → Int) (h : Skew 4 M) : G (-1) 4 M = pfF 4 M * pfF 4 M := by
  rw [skew_full 4 M h, pf4]
  simp [G, sumTo, minor, sk, pw]
  grind

theorem pf_sq2 (M : Nat → Nat → Int) (h : Skew 2 M) : G (-1) 2 M = pfF 2 M * pfF 2 M := by
  rw [skew_full 2 M h, pf2]
  simp [G, sumTo, minor, sk, pw]
  try grind

set_option maxHeartbeats 40000000 in
theorem pf_sq6 (M : Nat → Nat → Int) (h : Skew 6 M) : G (-1) 6 M = pfF 6 M * pfF 6 M := by
  rw [skew_full 6 M h, pf6_eq]
  simp [G, sumTo, minor, sk, pw, pf6]
  grind

/-- with an odd number of rows -/
theorem pf_odd (n : Nat) (ho : n % 2 = 1) (M : Nat → Nat → Int) (h : Skew n M) : G (-1) n M = 0 := by
  have H : ∀ m, m ≤ n → G (-1) n (fun a b => if a < m then -M a b else M a b) = (if m % 2 = 0 then 1 else -1) * G (-1) n M := by
    intro m
    induction m with
    | zero => intro _; simp
    | succ m ih =>
      intro hm
      have e := G_scale (-1) (by decide) n m (by omega) (fun a b => if a < m then -M a b else M a b) (-1)
      rw [ih (by omega)] at e
      have e1 : setRow (fun a b => if a < m then -M a b else M a b) m (fun j => -1 * (fun a b => if a < m then -M a b else M a b) m j) = fun a b => if a < m + 1 then -M a b else M a b := by
        funext a b
        unfold setRow
        by_cases h1 : a = m
        · subst h1; simp
        · rw [if_neg h1]
          dsimp only
          by_cases h2 : a < m
          · rw [if_pos h2, if_pos (by omega)]
          · rw [if_neg h2, if_neg (by omega)]
      rw [e1] at e
      rw [e]
      by_cases h3 : m % 2 = 0
      · rw [if_pos h3, if_neg (by omega)]; omega
      · rw [if_neg h3, if_pos (by omega)]; omega
  have h1 := H n (Nat.le_refl _)
  rw [if_neg (by omega)] at h1
  have h2 : G (-1) n (fun a b => if a < n then -M a b else M a b) = G (-1) n (fun i j => M j i) := by
    refine G_congr (-1) n fun i j hi hj => ?_
    rw [if_pos hi, h i j hi hj]
  rw [h2, G_flip] at h1
  omega
end Go.Proofs.Ytdpdopgngpamnaa
