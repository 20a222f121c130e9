/- Plain law: what is wrong with heights. No program in sight. -/
import Derived.Test.YthbfeecbaanegaaErrMath
namespace Go.Proofs.Ythbfeecbaanegaa
open Go.RowKit
set_option linter.unusedVariables false
set_option linter.unusedSimpArgs false

/-- what is wrong with heights that follow p -/
def riseFrom (p : Int) : List Int → Int
  | [] => 0
  | x :: xs => if outB 0 6 x = true then 1 else if x ≤ p then 3 else riseFrom x xs
def riseErr (l : List Int) : Int := riseFrom (-1) l
/-- the height ahead -/
def prevH (l : List Int) (k : Nat) : Int := if k = 0 then -1 else l.getD (k - 1) 0
theorem drop_one (l : List Int) (k : Nat) (hk : k < l.length) : l.drop k = l.getD k 0 :: l.drop (k + 1) := by
  rw [List.drop_eq_getElem_cons hk]
  simp [List.getD, hk]
theorem rise_out {l : List Int} {k : Nat} (hk : k < l.length) (h : riseErr l = riseFrom (prevH l k) (l.drop k)) (ho : outB 0 6 (l.getD k 0) = true) : riseErr l = 1 := by
  rw [h, drop_one l k hk, riseFrom, if_pos ho]
theorem rise_low {l : List Int} {k : Nat} (hk : k < l.length) (h : riseErr l = riseFrom (prevH l k) (l.drop k)) (ho : outB 0 6 (l.getD k 0) = false) (hl : l.getD k 0 ≤ prevH l k) : riseErr l = 3 := by
  rw [h, drop_one l k hk, riseFrom, if_neg (by rw [ho]; decide), if_pos hl]
theorem rise_on {l : List Int} {k : Nat} (hk : k < l.length) (h : riseErr l = riseFrom (prevH l k) (l.drop k)) (ho : outB 0 6 (l.getD k 0) = false) (hl : ¬ l.getD k 0 ≤ prevH l k) : riseErr l = riseFrom (prevH l (k + 1)) (l.drop (k + 1)) := by
  rw [h, drop_one l k hk, riseFrom, if_neg (by rw [ho]; decide), if_neg hl]
  unfold prevH
  rw [if_neg (by omega)]
  rfl
theorem rise_end {l : List Int} (h : riseErr l = riseFrom (prevH l l.length) (l.drop l.length)) : riseErr l = 0 := by
  rw [h, List.drop_length]
  rfl
/-- what is wrong with ways -/
def pathErr (width : Int) (from_ to_ : List Int) : Int :=
  if outB 0 4 width = true then 1 else if from_.length = 0 then 5 else if 3 < from_.length then 4 else if to_.length ≠ from_.length then 3 else if riseErr from_ ≠ 0 then riseErr from_ else riseErr to_

/-- heights that rise -/
theorem riseFrom_good : ∀ (l : List Int) (p : Int), riseFrom p l = 0 → (∀ x ∈ l, 0 ≤ x ∧ x ≤ 6 ∧ p < x) ∧ l.Pairwise (· < ·) := by
  intro l
  induction l with
  | nil => intro p _; exact ⟨fun x hx => (by cases hx), List.Pairwise.nil⟩
  | cons x xs ih =>
    intro p h
    rw [riseFrom] at h
    by_cases h1 : outB 0 6 x = true
    · rw [if_pos h1] at h; cases h
    · rw [if_neg h1] at h
      by_cases h2 : x ≤ p
      · rw [if_pos h2] at h; cases h
      · rw [if_neg h2] at h
        obtain ⟨g1, g2⟩ := ih x h
        have hx : 0 ≤ x ∧ x ≤ 6 := by
          simp [outB] at h1; omega
        refine ⟨fun y hy => ?_, List.Pairwise.cons (fun y hy => (g1 y hy).2.2) g2⟩
        rcases List.mem_cons.1 hy with rfl | hy
        · exact ⟨hx.1, hx.2, by omega⟩
        · have := g1 y hy; exact ⟨this.1, this.2.1, by omega⟩
theorem pathErr_good {width : Int} {from_ to_ : List Int} (h : pathErr width from_ to_ = 0) : 0 ≤ width ∧ width ≤ 4 ∧ 0 < from_.length ∧ from_.length ≤ 3 ∧ to_.length = from_.length ∧ riseErr from_ = 0 ∧ riseErr to_ = 0 := by
  unfold pathErr at h
  by_cases h1 : outB 0 4 width = true
  · rw [if_pos h1] at h; cases h
  rw [if_neg h1] at h
  by_cases h2 : from_.length = 0
  · rw [if_pos h2] at h; cases h
  rw [if_neg h2] at h
  by_cases h3 : 3 < from_.length
  · rw [if_pos h3] at h; cases h
  rw [if_neg h3] at h
  by_cases h4 : to_.length ≠ from_.length
  · rw [if_pos h4] at h; cases h
  rw [if_neg h4] at h
  by_cases h5 : riseErr from_ ≠ 0
  · rw [if_pos h5] at h; exact absurd h h5
  rw [if_neg h5] at h
  simp [outB] at h1
  refine ⟨by omega, by omega, by omega, by omega, by omega, by omega, h⟩
end Go.Proofs.Ythbfeecbaanegaa
