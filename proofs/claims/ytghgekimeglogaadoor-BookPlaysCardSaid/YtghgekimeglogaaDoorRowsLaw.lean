/- Plain law: matrices that are turned, and whose rows are exchanged. No program in sight. -/
import Derived.Test.YtghgekimeglogaaDoorAlg
import Derived.Test.YtghgekimeglogaaDoorBase
namespace Go.Proofs.YtghgekimeglogaaDoor
open Go.RowKit
set_option linter.unusedVariables false
set_option linter.unusedSimpArgs false

/-- p and q exchanged -/
def sw (p q a : Nat) : Nat := if a = p then q else if a = q then p else a
theorem sw_lt {n p q a : Nat} (hp : p < n) (hq : q < n) (ha : a < n) : sw p q a < n := by unfold sw; split; omega; split <;> omega
theorem ent_of {B : Int} {n : Nat} {A : List (List Int)} (hB : 0 ≤ B) (hs : Sq n A) (h : ∀ i j, i < n → j < n → -B ≤ fn A i j ∧ fn A i j ≤ B) : Ent B A := by
  intro i j
  by_cases hi : i < n
  · by_cases hj : j < n
    · exact h i j hi hj
    · have : (A.getD i []).getD j 0 = 0 := by
        have := hs.2 i hi
        rw [List.getD_eq_getElem?_getD, List.getElem?_eq_none (by omega)]
        rfl
      rw [this]; omega
  · have : A.getD i [] = [] := by rw [List.getD_eq_getElem?_getD, List.getElem?_eq_none (by rw [hs.1]; omega)]; rfl
    rw [this]
    simp
    omega
theorem sq_flip {n : Nat} (A : List (List Int)) : Sq n (flipTo A n n) := by
  refine ⟨flipTo_len _ _ _, fun i hi => ?_⟩
  have : (flipTo A n n).getD i [] = colTo A i n := by simp [flipTo, List.getD, hi]
  rw [this, colTo_len]
theorem fn_flipTo {n : Nat} (A : List (List Int)) {i j : Nat} (hi : i < n) (hj : j < n) : fn (flipTo A n n) i j = fn A j i := by
  simp [fn, flipTo, colTo, List.getD, hi, hj]
theorem sq_set {n : Nat} {A : List (List Int)} (h : Sq n A) {i : Nat} {r : List Int} (hr : r.length = n) : Sq n (A.set i r) := by
  refine ⟨by rw [List.length_set]; exact h.1, fun k hk => ?_⟩
  by_cases hik : i = k
  · subst hik
    rw [getD_set_eq _ _ _ _ (by rw [h.1]; exact hk)]; exact hr
  · rw [getD_set_ne _ _ _ _ _ hik]; exact h.2 k hk
/-- rows i and j exchanged -/
def swapL (A : List (List Int)) (i j : Nat) : List (List Int) := (A.set i (A.getD j [])).set j (A.getD i [])
theorem sq_swap {n : Nat} {A : List (List Int)} (h : Sq n A) {i j : Nat} (hi : i < n) (hj : j < n) : Sq n (swapL A i j) := sq_set (sq_set h (h.2 j hj)) (h.2 i hi)
theorem fn_swapL {n : Nat} {A : List (List Int)} (h : Sq n A) {i j : Nat} (hi : i < n) (hj : j < n) (a b : Nat) : fn (swapL A i j) a b = fn A (sw i j a) b := by
  unfold fn swapL sw
  by_cases h1 : j = a
  · subst h1
    rw [getD_set_eq _ _ _ _ (by rw [List.length_set, h.1]; exact hj)]
    by_cases h2 : j = i
    · rw [if_pos h2, h2]
    · rw [if_neg h2, if_pos rfl]
  · rw [getD_set_ne _ _ _ _ _ h1]
    by_cases h2 : i = a
    · subst h2
      rw [getD_set_eq _ _ _ _ (by rw [h.1]; exact hi), if_pos rfl]
    · rw [getD_set_ne _ _ _ _ _ h2, if_neg (fun h => h2 h.symm), if_neg (fun h => h1 h.symm)]

end Go.Proofs.YtghgekimeglogaaDoor
