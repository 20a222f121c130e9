/- Plain law: determinants by the first row, sums, wraps. No program in sight. -/
import Derived.WalkKit
namespace Go.Proofs.YthmkokbfeodeoaaDoor
open Go.RowKit
set_option linter.unusedVariables false
set_option linter.unusedSimpArgs false

theorem wrap_ex (x : Int) : ∃ q : Int, wrap64 x = x + 18446744073709551616 * q := ⟨-((x + 9223372036854775808) / 18446744073709551616), by unfold wrap64; omega⟩
theorem wrap_add (x q : Int) : wrap64 (x + 18446744073709551616 * q) = wrap64 x := by unfold wrap64; omega
theorem wrap_wrap (x : Int) : wrap64 (wrap64 x) = wrap64 x := by
  obtain ⟨q, h⟩ := wrap_ex x
  rw [h, wrap_add, h]
theorem wrap_add_l (x y : Int) : wrap64 (wrap64 x + y) = wrap64 (x + y) := by
  obtain ⟨q, h⟩ := wrap_ex x
  rw [h, show x + 18446744073709551616 * q + y = (x + y) + 18446744073709551616 * q from by omega, wrap_add]
theorem wrap_add_r (x y : Int) : wrap64 (x + wrap64 y) = wrap64 (x + y) := by rw [Int.add_comm, wrap_add_l, Int.add_comm]
theorem wrap_mul_l (x y : Int) : wrap64 (wrap64 x * y) = wrap64 (x * y) := by
  obtain ⟨q, h⟩ := wrap_ex x
  rw [h, show (x + 18446744073709551616 * q) * y = x * y + 18446744073709551616 * (q * y) from by grind, wrap_add]
theorem wrap_mul_r (x y : Int) : wrap64 (x * wrap64 y) = wrap64 (x * y) := by rw [Int.mul_comm, wrap_mul_l, Int.mul_comm]
theorem wrap_in {n : Int} (h1 : -9223372036854775808 ≤ n) (h2 : n ≤ 9223372036854775807) : wrap64 n = n := by unfold wrap64; omega

/-- f 0 + .. + f (k - 1) -/
def sumTo (f : Nat → Int) : Nat → Int
  | 0 => 0
  | k + 1 => sumTo f k + f k
theorem sumTo_congr {f g : Nat → Int} {n : Nat} (h : ∀ i, i < n → f i = g i) : sumTo f n = sumTo g n := by
  induction n with
  | zero => rfl
  | succ n ih => rw [sumTo, sumTo, ih (fun i hi => h i (by omega)), h n (by omega)]

/-- 1, -1, 1, .. -/
def sgn (k : Nat) : Int := if k % 2 = 0 then 1 else -1
theorem sgn_zero : sgn 0 = 1 := rfl
theorem sgn_succ (k : Nat) : sgn (k + 1) = -sgn k := by
  unfold sgn
  by_cases h : k % 2 = 0
  · rw [if_pos h, if_neg (by omega)]
  · rw [if_neg h, if_pos (by omega)]; rfl
theorem sgn_bd (k : Nat) : -1 ≤ sgn k ∧ sgn k ≤ 1 := by unfold sgn; split <;> omega

/-- a matrix without row i and column j -/
def cut (rows : List (List Int)) (i j : Nat) : List (List Int) := (rows.eraseIdx i).map (·.eraseIdx j)

/-- the determinant, of n rows, by the first row -/
def detN : Nat → List (List Int) → Int
  | 0, _ => 1
  | n + 1, m => sumTo (fun j => sgn j * (m.getD 0 []).getD j 0 * detN n (cut m 0 j)) (n + 1)

/-- n rows of n -/
def Sq (n : Nat) (m : List (List Int)) : Prop := m.length = n ∧ ∀ i, i < n → (m.getD i []).length = n

theorem getD_cut (m : List (List Int)) (i j k : Nat) : (cut m i j).getD k [] = (m.getD (if k < i then k else k + 1) []).eraseIdx j := by
  unfold cut
  rw [List.getD_eq_getElem?_getD, List.getElem?_map, List.getElem?_eraseIdx]
  split
  · cases h : m[k]? <;> simp [List.getD_eq_getElem?_getD, h]
  · cases h : m[k + 1]? <;> simp [List.getD_eq_getElem?_getD, h]

theorem Sq.cut {n : Nat} {m : List (List Int)} (h : Sq (n + 1) m) {i j : Nat} (hi : i < n + 1) (hj : j < n + 1) : Sq n (cut m i j) := by
  refine ⟨?_, fun k hk => ?_⟩
  · unfold Go.Proofs.YthmkokbfeodeoaaDoor.cut
    rw [List.length_map, List.length_eraseIdx_of_lt (by rw [h.1]; exact hi), h.1]
    rfl
  · rw [getD_cut]
    have h2 := h.2 (if k < i then k else k + 1) (by split <;> omega)
    rw [List.length_eraseIdx_of_lt (by rw [h2]; exact hj), h2]
    rfl

/-- one more term, as the machine adds it -/
theorem wrap_term (P s x d : Int) : wrap64 (wrap64 P + wrap64 (wrap64 (s * x) * wrap64 d)) = wrap64 (P + s * x * d) := by
  rw [wrap_add_l, wrap_add_r, ← wrap_add_r, wrap_mul_l, wrap_mul_r, wrap_add_r]
def cutTo (rows : List (List Int)) (i j k : Nat) : List (List Int) := ((rows.take k).eraseIdx i).map (·.eraseIdx j)

theorem cutTo_hit (rows : List (List Int)) (ci cj k : Nat) (hk : k < rows.length) (h : k = ci) : cutTo rows ci cj (k + 1) = cutTo rows ci cj k := by
  subst h
  have hl : (rows.take k).length = k := by simp; omega
  have e : (rows.take (k + 1)).eraseIdx k = (rows.take k).eraseIdx k := by
    rw [List.take_succ_eq_append_getElem hk, List.eraseIdx_append_of_length_le (by omega), hl, List.eraseIdx_of_length_le (l := rows.take k) (by omega)]
    simp
  unfold cutTo
  rw [e]
theorem cutTo_miss (rows : List (List Int)) (ci cj k : Nat) (hk : k < rows.length) (h : k ≠ ci) : cutTo rows ci cj (k + 1) = cutTo rows ci cj k ++ [(rows.getD k []).eraseIdx cj] := by
  have e : rows.getD k [] = rows[k] := by simp [List.getD, hk]
  have hl : (rows.take k).length = k := by simp; omega
  have e2 : (rows.take (k + 1)).eraseIdx ci = (rows.take k).eraseIdx ci ++ [rows[k]] := by
    rw [List.take_succ_eq_append_getElem hk]
    rcases Nat.lt_or_gt_of_ne h with h | h
    · rw [List.eraseIdx_of_length_le (l := rows.take k ++ [rows[k]]) (by simp; omega), List.eraseIdx_of_length_le (l := rows.take k) (by omega)]
    · rw [List.eraseIdx_append_of_lt_length (by omega)]
  unfold cutTo
  rw [e, e2, List.map_append]
  rfl

theorem eraseTo_hit (row : List Int) (j l : Nat) (hl : l < row.length) (h : l = j) : (row.take (l + 1)).eraseIdx j = (row.take l).eraseIdx j := by
  subst h
  have hl' : (row.take l).length = l := by simp; omega
  rw [List.take_succ_eq_append_getElem hl, List.eraseIdx_append_of_length_le (by omega), hl', List.eraseIdx_of_length_le (l := row.take l) (by omega)]
  simp
theorem eraseTo_miss (row : List Int) (j l : Nat) (hl : l < row.length) (h : l ≠ j) : (row.take (l + 1)).eraseIdx j = (row.take l).eraseIdx j ++ [row.getD l 0] := by
  have e : row.getD l 0 = row[l] := by simp [List.getD, hl]
  have hl' : (row.take l).length = l := by simp; omega
  rw [e, List.take_succ_eq_append_getElem hl]
  rcases Nat.lt_or_gt_of_ne h with h | h
  · rw [List.eraseIdx_of_length_le (l := row.take l ++ [row[l]]) (by simp; omega), List.eraseIdx_of_length_le (l := row.take l) (by omega)]
  · rw [List.eraseIdx_append_of_lt_length (by omega)]
end Go.Proofs.YthmkokbfeodeoaaDoor
