/- Plain law: what is wrong with a matrix. No program in sight. -/
import Derived.WalkKit
namespace Go.Proofs.YthmkokbfeodeoaaDoor
open Go.RowKit
set_option linter.unusedVariables false
set_option linter.unusedSimpArgs false

def outB (lo hi x : Int) : Bool := decide (x < lo) || decide (hi < x)
def anyOut (lo hi : Int) (xs : List Int) : Bool := xs.any (outB lo hi)

theorem anyOut_snoc (lo hi : Int) (xs : List Int) (k : Nat) (h : k < xs.length) (h0 : (xs.take k).any (outB lo hi) = false) (h1 : outB lo hi (xs.getD k 0) = false) :
    (xs.take (k + 1)).any (outB lo hi) = false := by
  rw [List.take_succ_eq_append_getElem h, List.any_append, h0]
  have : xs.getD k 0 = xs[k] := by simp [List.getD, h]
  rw [this] at h1
  simp [h1]

theorem anyOut_hit (lo hi : Int) (xs : List Int) (k : Nat) (h : k < xs.length) (h1 : outB lo hi (xs.getD k 0) = true) :
    anyOut lo hi xs = true := by
  have : xs.getD k 0 = xs[k] := by simp [List.getD, h]
  rw [this] at h1
  exact List.any_eq_true.2 ⟨xs[k], List.getElem_mem _, h1⟩

def inB (n lo hi : Int) : Bool := decide (lo ≤ n) && decide (n ≤ hi)
theorem inB_out (n lo hi : Int) : inB n lo hi = !outB lo hi n := by
  simp only [inB, outB]
  by_cases h1 : lo ≤ n <;> by_cases h2 : n ≤ hi <;> simp [h1, h2] <;> omega
theorem inB_true {n lo hi : Int} (h : inB n lo hi = true) : lo ≤ n ∧ n ≤ hi := by simpa [inB] using h

/-- what is wrong with rows that should be so wide -/
def rowsErr (L : Nat) (lo hi : Int) : List (List Int) → Int
  | [] => 0
  | r :: rs => if r.length ≠ L then 3 else if anyOut lo hi r = true then 1 else rowsErr L lo hi rs
def matErr (rows : List (List Int)) (most lo hi : Int) : Int :=
  if rows.length = 0 ∨ (rows.getD 0 []).length = 0 then 5 else if most < rows.length ∨ most < (rows.getD 0 []).length then 4 else rowsErr (rows.getD 0 []).length lo hi rows
def sqErr (rows : List (List Int)) (most lo hi : Int) : Int :=
  if matErr rows most lo hi ≠ 0 then matErr rows most lo hi else if rows.length ≠ (rows.getD 0 []).length then 3 else 0

theorem rowsErr_skip (L : Nat) (lo hi : Int) : ∀ (rows : List (List Int)) (k : Nat), k ≤ rows.length → (∀ i, i < k → (rows.getD i []).length = L ∧ anyOut lo hi (rows.getD i []) = false) → rowsErr L lo hi rows = rowsErr L lo hi (rows.drop k) := by
  intro rows
  induction rows with
  | nil => intro k hk _; simp at hk; subst hk; rfl
  | cons r rs ih =>
    intro k hk h
    cases k with
    | zero => rfl
    | succ k =>
      have h0 := h 0 (by omega)
      simp only [List.getD_cons_zero] at h0
      rw [rowsErr, if_neg (by simp [h0.1]), if_neg (by simp [h0.2]), List.drop_succ_cons]
      exact ih k (by simpa using hk) (fun i hi => by have := h (i + 1) (by omega); simpa using this)
theorem drop_cons (rows : List (List Int)) (k : Nat) (hk : k < rows.length) : rows.drop k = rows.getD k [] :: rows.drop (k + 1) := by
  rw [List.drop_eq_getElem_cons hk]
  simp [List.getD, hk]
theorem rowsErr_three {L : Nat} {lo hi : Int} {rows : List (List Int)} {k : Nat} (hk : k < rows.length) (h : ∀ i, i < k → (rows.getD i []).length = L ∧ anyOut lo hi (rows.getD i []) = false) (hb : (rows.getD k []).length ≠ L) : rowsErr L lo hi rows = 3 := by
  rw [rowsErr_skip L lo hi rows k (by omega) h, drop_cons rows k hk, rowsErr, if_pos hb]
theorem rowsErr_one {L : Nat} {lo hi : Int} {rows : List (List Int)} {k : Nat} (hk : k < rows.length) (h : ∀ i, i < k → (rows.getD i []).length = L ∧ anyOut lo hi (rows.getD i []) = false) (hb : (rows.getD k []).length = L) (hb2 : anyOut lo hi (rows.getD k []) = true) : rowsErr L lo hi rows = 1 := by
  rw [rowsErr_skip L lo hi rows k (by omega) h, drop_cons rows k hk, rowsErr, if_neg (fun h => h hb), if_pos hb2]
theorem rowsErr_zero {L : Nat} {lo hi : Int} {rows : List (List Int)} (h : ∀ i, i < rows.length → (rows.getD i []).length = L ∧ anyOut lo hi (rows.getD i []) = false) : rowsErr L lo hi rows = 0 := by
  rw [rowsErr_skip L lo hi rows rows.length (Nat.le_refl _) h, List.drop_length, rowsErr]

theorem rowsErr_good {L : Nat} {lo hi : Int} : ∀ {rows : List (List Int)}, rowsErr L lo hi rows = 0 → ∀ r ∈ rows, r.length = L ∧ anyOut lo hi r = false := by
  intro rows
  induction rows with
  | nil => intro _ r hr; cases hr
  | cons q rs ih =>
    intro h r hr
    rw [rowsErr] at h
    split at h
    · cases h
    · split at h
      · cases h
      · rename_i h1 h2
        rcases List.mem_cons.1 hr with rfl | hr
        · exact ⟨by simpa using h1, by simpa using h2⟩
        · exact ih h r hr

/-- what a matrix without fault is -/
theorem sqErr_good {rows : List (List Int)} {most lo hi : Int} (h : sqErr rows most lo hi = 0) : 0 < rows.length ∧ (rows.length : Int) ≤ most ∧ ∀ r ∈ rows, r.length = rows.length ∧ anyOut lo hi r = false := by
  unfold sqErr at h
  split at h
  · rename_i g; exact absurd h g
  · rename_i g
    split at h
    · cases h
    · rename_i g2
      have g : matErr rows most lo hi = 0 := by simpa using g
      have g2 : rows.length = (rows.getD 0 []).length := by simpa using g2
      unfold matErr at g
      split at g
      · cases g
      · split at g
        · cases g
        · rename_i g3 g4
          refine ⟨by omega, by omega, fun r hr => ?_⟩
          rw [g2]
          exact rowsErr_good g r hr

end Go.Proofs.YthmkokbfeodeoaaDoor
