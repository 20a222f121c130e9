/- Plain law: Pfaffians are linear in a row and column. No program in sight. -/
import Derived.Test.YtdpdopgngpamnaaPfMath
namespace Go.Proofs.Ytdpdopgngpamnaa
open Go.RowKit
set_option linter.unusedVariables false
set_option linter.unusedSimpArgs false

/-- row i is r, column i is -r -/
def setB (M : Nat → Nat → Int) (i : Nat) (r : Nat → Int) : Nat → Nat → Int := fun a b => if a = i then (if b = i then 0 else r b) else if b = i then -(r a) else M a b

set_option maxHeartbeats 4000000 in
theorem pf_lin (n : Nat) (hn : n ≤ 6) (h0 : 0 < n) (he : n % 2 = 0) (M : Nat → Nat → Int) (i : Nat) (hi : i < n) (x y : Int) (r t : Nat → Int) :
    pfF n (setB M i (fun c => x * r c + y * t c)) = x * pfF n (setB M i r) + y * pfF n (setB M i t) := by
  have hn' : n = 2 ∨ n = 4 ∨ n = 6 := by omega
  rcases hn' with rfl | rfl | rfl
  · rw [pf2, pf2, pf2]
    have hc : i = 0 ∨ i = 1 := by omega
    rcases hc with rfl | rfl <;> (simp [setB]; try grind)
  · rw [pf4, pf4, pf4]
    have hc : i = 0 ∨ i = 1 ∨ i = 2 ∨ i = 3 := by omega
    rcases hc with rfl | rfl | rfl | rfl <;> (simp [setB]; grind)
  · rw [pf6_eq, pf6_eq, pf6_eq]
    have hc : i = 0 ∨ i = 1 ∨ i = 2 ∨ i = 3 ∨ i = 4 ∨ i = 5 := by omega
    rcases hc with rfl | rfl | rfl | rfl | rfl | rfl <;> (simp [setB, pf6]; grind)

/-- one row and column so many times -/
theorem pf_scale (n : Nat) (hn : n ≤ 6) (h0 : 0 < n) (he : n % 2 = 0) (M : Nat → Nat → Int) (h : Skew n M) (i : Nat) (hi : i < n) (k : Int) : pfF n (setB M i (fun c => k * M i c)) = k * pfF n M := by
  have e := pf_lin n hn h0 he M i hi k 0 (M i) (M i)
  have e1 : pfF n (setB M i (M i)) = pfF n M := by
    refine pfF_congr n fun a b ha hb => ?_
    unfold setB
    by_cases h1 : a = i
    · rw [if_pos h1]
      by_cases h2 : b = i
      · rw [if_pos h2, h1, h2, h.diag hi]
      · rw [if_neg h2, h1]
    · rw [if_neg h1]
      by_cases h2 : b = i
      · rw [if_pos h2, h2]
        have := h a i ha hi
        omega
      · rw [if_neg h2]
  rw [e1] at e
  rw [show (fun c => k * M i c + 0 * M i c) = (fun c => k * M i c) from by funext c; omega] at e
  omega

/-- two rows and columns that are the same -/
theorem pf_like (n : Nat) (hn : n ≤ 6) (he : n % 2 = 0) (M : Nat → Nat → Int) (h : Skew n M) (i j : Nat) (hi : i < n) (hj : j < n) (hij : i ≠ j) : pfF n (setB M i (M j)) = 0 := by
  have hs : Skew n (setB M i (M j)) := by
    intro a b ha hb
    unfold setB
    by_cases h1 : a = i <;> by_cases h2 : b = i <;> simp [h1, h2]
    · exact h a b ha hb
  have e := pf_swap n hn he _ hs i j hi hj hij
  have e1 : pfF n (swapB (setB M i (M j)) i j) = pfF n (setB M i (M j)) := by
    refine pfF_congr n fun a b ha hb => ?_
    have hd := h.diag hj
    unfold swapB setB sw
    by_cases h1 : a = i
    · by_cases h2 : b = i
      · simp [h1, h2, hd]
      · by_cases h3 : b = j
        · simp [h1, h3, hij, hij.symm, hd]
        · simp [h1, h2, h3, hij, hij.symm]
    · by_cases h4 : a = j
      · by_cases h2 : b = i
        · simp [h4, h2, hij, hij.symm, hd]
        · by_cases h3 : b = j
          · simp [h4, h3, hij, hij.symm, hd]
          · simp [h4, h2, h3, hij, hij.symm]
      · by_cases h2 : b = i
        · have := h a j ha hj
          simp [h1, h4, h2, hij, hij.symm]; omega
        · by_cases h3 : b = j
          · have := h a j ha hj
            simp [h1, h4, h3, hij, hij.symm]; omega
          · simp [h1, h4, h2, h3]
  omega

/-- so many times one row and column added to another one -/
theorem pf_add (n : Nat) (hn : n ≤ 6) (h0 : 0 < n) (he : n % 2 = 0) (M : Nat → Nat → Int) (h : Skew n M) (i j : Nat) (hi : i < n) (hj : j < n) (hij : i ≠ j) (k : Int) : pfF n (setB M i (fun c => M i c + k * M j c)) = pfF n M := by
  have e := pf_lin n hn h0 he M i hi 1 k (M i) (M j)
  have e2 := pf_scale n hn h0 he M h i hi 1
  rw [show (fun c => 1 * M i c) = M i from by funext c; omega] at e2
  rw [e2, pf_like n hn he M h i j hi hj hij] at e
  rw [show (fun c => 1 * M i c + k * M j c) = (fun c => M i c + k * M j c) from by funext c; omega] at e
  omega

/-- turned -/
theorem pf_flip (n : Nat) (hn : n ≤ 6) (he : n % 2 = 0) (M : Nat → Nat → Int) (h : Skew n M) : pfF n (fun i j => M j i) = (if n % 4 = 2 then -1 else 1) * pfF n M := by
  rw [pfF_congr n (M := fun i j => M j i) (N := fun i j => -M i j) (fun i j hi hj => h i j hi hj)]
  have hn' : n = 0 ∨ n = 2 ∨ n = 4 ∨ n = 6 := by omega
  rcases hn' with rfl | rfl | rfl | rfl
  · rfl
  · rw [pf2, pf2]; simp
  · rw [pf4, pf4]; simp; try grind
  · rw [pf6_eq, pf6_eq]; simp [pf6]; try grind
end Go.Proofs.Ytdpdopgngpamnaa
