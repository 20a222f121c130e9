/- Plain law: the Pfaffian as the sum over all ways to part rows into pairs. No program in sight. -/
import Derived.Test.YtkcgcedldjcfjaaDoorPfMath
import Derived.Test.YtkcgcedldjcfjaaDoorHPermMath
namespace Go.Proofs.YtkcgcedldjcfjaaDoor
open Go.RowKit
set_option linter.unusedVariables false
set_option linter.unusedSimpArgs false

/-- the sign, turned for each of the first k that stands above number i -/
def flipK (l : List Int) (i : Nat) : Nat → Int → Int
  | 0, s => s
  | k + 1, s => if l.getD i 0 < l.getD k 0 then -(flipK l i k s) else flipK l i k s
def sgI (l : List Int) : Nat → Int
  | 0 => 1
  | i + 1 => flipK l i i (sgI l i)
/-- the sign of a list that should be an order -/
def signV (l : List Int) : Int := if (List.range l.length).all (fun i => decide ((i : Int) ∈ l)) = true then sgI l l.length else 0
/-- the product over the first q pairs -/
def prodP (M : Nat → Nat → Int) (l : List Int) : Nat → Int
  | 0 => 1
  | q + 1 => prodP M l q * M (l.getD (2 * q) 0).toNat (l.getD (2 * q + 1) 0).toNat
/-- the first that is not in a list -/
def firstOut (n : Nat) (l : List Int) : Nat := ((List.range n).find? fun (p : Nat) => decide (¬ (p : Int) ∈ l)).getD n
/-- all ways to go on -/
def pfU (n : Nat) (M : Nat → Nat → Int) : Nat → List Int → Int
  | 0, _ => 0
  | f + 1, l => if l.length = n then signV l * prodP M l (n / 2) else sumTo (fun j => if firstOut n l < j ∧ ¬ (j : Int) ∈ l then pfU n M f (l ++ [(firstOut n l : Int)] ++ [(j : Int)]) else 0) n

theorem flipK_pm (l : List Int) (i : Nat) (k : Nat) (s : Int) (h : s = 1 ∨ s = -1) : flipK l i k s = 1 ∨ flipK l i k s = -1 := by
  induction k with
  | zero => exact h
  | succ k ih => rw [flipK]; split <;> omega
theorem sgI_pm (l : List Int) (i : Nat) : sgI l i = 1 ∨ sgI l i = -1 := by
  induction i with
  | zero => left; rfl
  | succ i ih => exact flipK_pm l i i _ ih
theorem pigeon : ∀ (n : Nat) (l : List Int), l.length < n → ∃ p, p < n ∧ ¬ (p : Int) ∈ l := by
  intro n
  induction n with
  | zero => intro l h; omega
  | succ n ih =>
    intro l h
    by_cases hn : (n : Int) ∈ l
    · have h1 : (l.erase (n : Int)).length = l.length - 1 := List.length_erase_of_mem hn
      have h2 : 0 < l.length := List.length_pos_of_mem hn
      obtain ⟨p, hp, hp2⟩ := ih (l.erase (n : Int)) (by omega)
      exact ⟨p, by omega, fun hm => hp2 ((List.mem_erase_of_ne (by omega)).2 hm)⟩
    · exact ⟨n, by omega, hn⟩
theorem firstOut_eq {n p : Nat} {l : List Int} (hp : p < n) (h1 : ∀ i : Nat, i < p → (i : Int) ∈ l) (h2 : ¬ (p : Int) ∈ l) : firstOut n l = p := by
  unfold firstOut
  have : (List.range n).find? (fun (p : Nat) => decide (¬ (p : Int) ∈ l)) = some p := by
    rw [List.find?_eq_some_iff_getElem]
    refine ⟨by simpa using h2, p, by simpa using hp, by simp, fun j hj => ?_⟩
    simpa using h1 j hj
  rw [this]
  rfl

theorem left_add {n x : Nat} {l : List Int} (hx : x < n) (h : ¬ (x : Int) ∈ l) : (leftL n (l ++ [(x : Int)])).length + 1 = (leftL n l).length := by
  have hm : x ∈ leftL n l := List.mem_filter.2 ⟨List.mem_range.2 hx, by simpa using h⟩
  obtain ⟨b, hb, e⟩ := List.getElem_of_mem hm
  have hc := left_cut n l hb
  have e2 : (leftL n l).getD b 0 = x := by simp [List.getD, hb, e]
  rw [e2] at hc
  rw [hc, List.length_eraseIdx_of_lt hb]
  omega
/-- so many are left, and all that are there stand below n -/
def Fit (n : Nat) (l : List Int) : Prop := (leftL n l).length + l.length = n ∧ ∀ x ∈ l, ∃ p : Nat, p < n ∧ x = p
theorem Fit.nil (n : Nat) : Fit n [] := ⟨by unfold leftL; rw [List.filter_eq_self.2 (fun j _ => by simp)]; simp, fun x hx => by cases hx⟩
theorem Fit.add {n x : Nat} {l : List Int} (h : Fit n l) (hx : x < n) (h2 : ¬ (x : Int) ∈ l) : Fit n (l ++ [(x : Int)]) := by
  refine ⟨?_, fun y hy => ?_⟩
  · have := left_add hx h2
    have := h.1
    rw [List.length_append, List.length_singleton]
    omega
  · rcases List.mem_append.1 hy with h3 | h3
    · exact h.2 y h3
    · exact ⟨x, hx, by simpa using h3⟩
theorem Fit.at {n : Nat} {l : List Int} (h : Fit n l) {i : Nat} (hi : i < l.length) : ∃ p : Nat, p < n ∧ l.getD i 0 = p := by
  have : l.getD i 0 ∈ l := by rw [List.getD_eq_getElem?_getD, List.getElem?_eq_getElem hi]; exact List.getElem_mem _
  exact h.2 _ this
theorem prodP_succ (M : Nat → Nat → Int) (l : List Int) (q a b : Nat) (h1 : l.getD (2 * q) 0 = a) (h2 : l.getD (2 * q + 1) 0 = b) : prodP M l (q + 1) = prodP M l q * M a b := by
  rw [prodP, h1, h2]; rfl
theorem pfU_odd1 (M : Nat → Nat → Int) : pfU 1 M 2 [] = 0 := by rfl
theorem pfU_2 (M : Nat → Nat → Int) : pfU 2 M 3 [] = pfF 2 M := by
  rw [pf2]
  simp [pfU, sumTo, firstOut, signV, sgI, flipK, prodP, List.range, List.range.loop]
theorem pfU_3 (M : Nat → Nat → Int) : pfU 3 M 4 [] = 0 := by
  simp [pfU, sumTo, firstOut, signV, sgI, flipK, prodP, List.range, List.range.loop]
theorem pfU_4 (M : Nat → Nat → Int) : pfU 4 M 5 [] = pfF 4 M := by
  rw [pf4]
  simp [pfU, sumTo, firstOut, signV, sgI, flipK, prodP, List.range, List.range.loop]
  grind
theorem pfU_5 (M : Nat → Nat → Int) : pfU 5 M 6 [] = 0 := by
  simp [pfU, sumTo, firstOut, signV, sgI, flipK, prodP, List.range, List.range.loop]
set_option maxRecDepth 100000 in
set_option maxHeartbeats 4000000 in
theorem pfU_6 (M : Nat → Nat → Int) : pfU 6 M 7 [] = pfF 6 M := by
  rw [pf6_eq]
  simp [pfU, sumTo, firstOut, signV, sgI, flipK, prodP, List.range, List.range.loop]
  unfold pf6
  grind
end Go.Proofs.YtkcgcedldjcfjaaDoor
