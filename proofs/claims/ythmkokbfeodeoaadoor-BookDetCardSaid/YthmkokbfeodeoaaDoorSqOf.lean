/- Plain law: which square matrices are right. No program in sight. -/
import Derived.Test.YthmkokbfeodeoaaDoorBnd
namespace Go.Proofs.YthmkokbfeodeoaaDoor
open Go.RowKit
set_option linter.unusedVariables false
set_option linter.unusedSimpArgs false

theorem sqErr_rows {rows : List (List Int)} {n : Nat} {most lo hi : Int} (h : Sq n rows) (h0 : 0 < n) (hm : (n : Int) ≤ most) : sqErr rows most lo hi = rowsErr n lo hi rows := by
  have h1 := h.2 0 h0
  have hm0 : matErr rows most lo hi = rowsErr n lo hi rows := by
    unfold matErr
    rw [h.1, h1, if_neg (by omega), if_neg (by omega)]
  unfold sqErr
  rw [hm0, h.1, h1]
  by_cases h2 : rowsErr n lo hi rows = 0
  · rw [if_neg (by omega), if_neg (by omega), h2]
  · rw [if_pos h2]
theorem rowsErr_or (L : Nat) (lo hi : Int) : ∀ (rows : List (List Int)), (∀ r ∈ rows, r.length = L) → rowsErr L lo hi rows = 0 ∨ rowsErr L lo hi rows = 1 := by
  intro rows
  induction rows with
  | nil => intro _; left; rfl
  | cons r rs ih =>
    intro h
    rw [rowsErr, if_neg (by simp [h r (by simp)])]
    by_cases h1 : anyOut lo hi r = true
    · rw [if_pos h1]; right; rfl
    · rw [if_neg h1]; exact ih (fun r hr => h r (by simp [hr]))
theorem Sq.mem {rows : List (List Int)} {n : Nat} (h : Sq n rows) : ∀ r ∈ rows, r.length = n := by
  intro r hr
  obtain ⟨i, hi, rfl⟩ := List.mem_iff_getElem.1 hr
  have := h.2 i (by rw [← h.1]; exact hi)
  simpa [List.getD, hi] using this
/-- a square matrix is right, or a number of it is not -/
theorem sqErr_or {rows : List (List Int)} {n : Nat} {most lo hi : Int} (h : Sq n rows) (h0 : 0 < n) (hm : (n : Int) ≤ most) : sqErr rows most lo hi = 0 ∨ sqErr rows most lo hi = 1 := by
  rw [sqErr_rows h h0 hm]
  exact rowsErr_or n lo hi rows h.mem
theorem sqErr_of {rows : List (List Int)} {n : Nat} {most B : Int} (h : Sq n rows) (h0 : 0 < n) (hm : (n : Int) ≤ most) (he : Ent B rows) : sqErr rows most (-B) B = 0 := by
  rw [sqErr_rows h h0 hm]
  refine rowsErr_zero fun i hi => ⟨h.2 i (by rw [← h.1]; exact hi), ?_⟩
  refine Bool.eq_false_iff.2 fun ha => ?_
  obtain ⟨x, hx, hb⟩ := List.any_eq_true.1 ha
  obtain ⟨j, hj, rfl⟩ := List.mem_iff_getElem.1 hx
  have := he i j
  rw [show (rows.getD i []).getD j 0 = (rows.getD i [])[j] by simp [List.getD] at hj ⊢; simp [hj]] at this
  generalize (rows.getD i [])[j] = y at *
  simp [outB] at hb
  omega
end Go.Proofs.YthmkokbfeodeoaaDoor
