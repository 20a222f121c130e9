/- Plain law: how great a determinant or a permanent can be. No program in sight. -/
import Derived.Test.YthmkokbfeodeoaaDoorDetMath
import Derived.Test.YthmkokbfeodeoaaDoorErrMath
namespace Go.Proofs.YthmkokbfeodeoaaDoor
open Go.RowKit
set_option linter.unusedVariables false
set_option linter.unusedSimpArgs false

def permN : Nat → List (List Int) → Int
  | 0, _ => 1
  | n + 1, m => sumTo (fun j => (m.getD 0 []).getD j 0 * permN n (cut m 0 j)) (n + 1)

/-- all entries are within B -/
def Ent (B : Int) (m : List (List Int)) : Prop := ∀ i j, -B ≤ (m.getD i []).getD j 0 ∧ (m.getD i []).getD j 0 ≤ B

theorem getD_eraseIdx (l : List Int) (j k : Nat) : (l.eraseIdx j).getD k 0 = l.getD (if k < j then k else k + 1) 0 := by
  simp only [List.getD_eq_getElem?_getD, List.getElem?_eraseIdx]
  split <;> rfl
theorem Ent.cut {B : Int} {m : List (List Int)} (h : Ent B m) (i j : Nat) : Ent B (cut m i j) := by
  intro a b
  rw [getD_cut, getD_eraseIdx]
  exact h _ _

theorem bd_mul {a b B C : Int} (h1 : -B ≤ a) (h2 : a ≤ B) (h3 : -C ≤ b) (h4 : b ≤ C) : -(B * C) ≤ a * b ∧ a * b ≤ B * C := by
  have e1 : 0 ≤ (B - a) * (C + b) := Int.mul_nonneg (by omega) (by omega)
  have e2 : 0 ≤ (B + a) * (C - b) := Int.mul_nonneg (by omega) (by omega)
  have e3 : 0 ≤ (B - a) * (C - b) := Int.mul_nonneg (by omega) (by omega)
  have e4 : 0 ≤ (B + a) * (C + b) := Int.mul_nonneg (by omega) (by omega)
  simp only [Int.sub_mul, Int.add_mul, Int.mul_add, Int.mul_sub] at e1 e2 e3 e4
  generalize B * C = p at *
  generalize a * b = q at *
  generalize B * b = r at *
  generalize a * C = s at *
  omega
theorem sumTo_bd {f : Nat → Int} {B : Int} {n : Nat} (h : ∀ i, i < n → -B ≤ f i ∧ f i ≤ B) : -(n * B) ≤ sumTo f n ∧ sumTo f n ≤ n * B := by
  induction n with
  | zero => simp [sumTo]
  | succ n ih =>
    have h1 := ih (fun i hi => h i (by omega))
    have h2 := h n (by omega)
    rw [sumTo]
    have e : ((n + 1 : Nat) : Int) * B = n * B + B := by rw [Int.natCast_add]; grind
    rw [e]
    omega

/-- n! B^n -/
def bnd (B : Int) : Nat → Int
  | 0 => 1
  | n + 1 => (n + 1 : Nat) * (B * bnd B n)
theorem permN_bd {B : Int} (n : Nat) : ∀ {m : List (List Int)}, Ent B m → -(bnd B n) ≤ permN n m ∧ permN n m ≤ bnd B n := by
  induction n with
  | zero => intro m _; simp [permN, bnd]
  | succ n ih =>
    intro m h
    rw [permN, bnd]
    refine sumTo_bd fun j hj => ?_
    have h1 := h 0 j
    have h2 := ih (h.cut 0 j)
    exact bd_mul h1.1 h1.2 h2.1 h2.2
theorem detN_bd {B : Int} (n : Nat) : ∀ {m : List (List Int)}, Ent B m → -(bnd B n) ≤ detN n m ∧ detN n m ≤ bnd B n := by
  induction n with
  | zero => intro m _; simp [detN, bnd]
  | succ n ih =>
    intro m h
    rw [detN, bnd]
    refine sumTo_bd fun j hj => ?_
    have h1 := h 0 j
    have h2 := ih (h.cut 0 j)
    have h3 : -B ≤ sgn j * (m.getD 0 []).getD j 0 ∧ sgn j * (m.getD 0 []).getD j 0 ≤ B := by
      unfold sgn
      split <;> omega
    exact bd_mul h3.1 h3.2 h2.1 h2.2

theorem mem_getD {α : Type} (l : List α) (i : Nat) (d : α) : l.getD i d ∈ l ∨ l.getD i d = d := by
  by_cases h : i < l.length
  · left; simp [List.getD, h]
  · right; simp [List.getD, h]

/-- a matrix without fault: square, its entries in bounds -/
theorem good_sq {rows : List (List Int)} {most lo hi : Int} (h : sqErr rows most lo hi = 0) : Sq rows.length rows := by
  obtain ⟨h1, h2, h3⟩ := sqErr_good h
  refine ⟨rfl, fun i hi => ?_⟩
  have : rows.getD i [] ∈ rows := by simp [List.getD, hi]
  exact (h3 _ this).1
theorem good_ent {rows : List (List Int)} {most B : Int} (hB : 0 ≤ B) (h : sqErr rows most (-B) B = 0) : Ent B rows := by
  obtain ⟨h1, h2, h3⟩ := sqErr_good h
  intro i j
  rcases mem_getD rows i [] with h | h
  · have h4 := (h3 _ h).2
    rcases mem_getD (rows.getD i []) j 0 with g | g
    · have : outB (-B) B ((rows.getD i []).getD j 0) = false := by
        have := List.any_eq_false.1 h4 _ g
        simpa using this
      generalize (rows.getD i []).getD j 0 = x at *
      simp [outB] at this
      omega
    · rw [g]; omega
  · rw [h]
    simp
    omega
end Go.Proofs.YthmkokbfeodeoaaDoor
