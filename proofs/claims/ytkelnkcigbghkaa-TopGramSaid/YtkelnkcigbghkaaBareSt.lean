/- Plain law: what the fraction-free elimination holds at each step. No program in sight. -/
import Derived.Test.YtkelnkcigbghkaaBareMath
import Derived.Test.YtkelnkcigbghkaaRowsLaw
import Derived.Test.YtkelnkcigbghkaaPut
namespace Go.Proofs.Ytkelnkcigbghkaa
open Go.RowKit
set_option linter.unusedVariables false
set_option linter.unusedSimpArgs false

theorem G_bd (s : Int) (hs : s = 1 ∨ s = -1) {B : Int} (n : Nat) : ∀ {M : Nat → Nat → Int}, (∀ i j, -B ≤ M i j ∧ M i j ≤ B) → -(bnd B n) ≤ G s n M ∧ G s n M ≤ bnd B n := by
  induction n with
  | zero => intro M _; simp [G, bnd]
  | succ n ih =>
    intro M h
    rw [G, bnd]
    refine sumTo_bd fun j hj => ?_
    have h1 := h 0 j
    have h2 := ih (M := minor M 0 j) (fun a b => h _ _)
    have h4 : pw s j = 1 ∨ pw s j = -1 := by
      clear h h1 h2 ih hj
      induction j with
      | zero => left; rfl
      | succ j ih => rcases hs with rfl | rfl <;> rcases ih with e | e <;> simp [pw, e]
    have h3 : -B ≤ pw s j * M 0 j ∧ pw s j * M 0 j ≤ B := by
      rcases h4 with e | e <;> rw [e] <;> omega
    exact bd_mul h3.1 h3.2 h2.1 h2.2
theorem bnd9' {n : Nat} (h : n ≤ 5) : bnd 9 n ≤ 7085880 := by
  match n, h with
  | 0, _ => decide
  | 1, _ => decide
  | 2, _ => decide
  | 3, _ => decide
  | 4, _ => decide
  | 5, _ => decide
theorem B_bd {c : Nat} {M : Nat → Nat → Int} (hc : c < 5) (h : ∀ i j, -9 ≤ M i j ∧ M i j ≤ 9) (i j : Nat) : -7085880 ≤ B c M i j ∧ B c M i j ≤ 7085880 := by
  have h1 := G_bd (-1) (Or.inr rfl) (B := 9) (c + 1) (M := bord c M i j) (fun a b => h _ _)
  have h2 := bnd9' (n := c + 1) (by omega)
  unfold B
  omega

/-- the elimination as far as c: rows are exchanged to M; the matrix holds the minors -/
structure BSt (D : Int) (n c : Nat) (sg : Int) (M : Nat → Nat → Int) (T : List (List Int)) : Prop where
  sgn : sg = 1 ∨ sg = -1
  det : sg * G (-1) n M = D
  bd : ∀ i j, -9 ≤ M i j ∧ M i j ≤ 9
  lead : G (-1) c M ≠ 0
  val : ∀ i j, c ≤ i → c ≤ j → i < n → j < n → fn T i j = B c M i j

theorem BSt.start {n : Nat} {rows : List (List Int)} (hb : Ent 9 rows) : BSt (G (-1) n (fn rows)) n 0 1 (fn rows) rows :=
  ⟨Or.inl rfl, by omega, hb, by simp [G], fun i j _ _ _ _ => (B_0 _ _ _).symm⟩
theorem BSt.vbd {D : Int} {n c : Nat} {sg : Int} {M : Nat → Nat → Int} {T : List (List Int)} (h : BSt D n c sg M T) (hn : n ≤ 5) {i j : Nat} (hi : c ≤ i) (hj : c ≤ j) (hi' : i < n) (hj' : j < n) : -7085880 ≤ fn T i j ∧ fn T i j ≤ 7085880 := by
  rw [h.val i j hi hj hi' hj']
  exact B_bd (by omega) h.bd i j
theorem BSt.stop {D : Int} {n c : Nat} {sg : Int} {M : Nat → Nat → Int} {T : List (List Int)} (h : BSt D n c sg M T) (hc : c < n) (hz : ∀ k, c ≤ k → k < n → fn T k c = 0) : D = 0 := by
  have := B_stop n c M hc h.lead (fun k h1 h2 => by rw [← h.val k c h1 (Nat.le_refl _) h2 hc]; exact hz k h1 h2)
  rw [← h.det, this, Int.mul_zero]
theorem BSt.swap {D : Int} {n c k : Nat} {sg : Int} {M : Nat → Nat → Int} {T : List (List Int)} (h : BSt D n c sg M T) (hs : Sq n T) (hc : c < n) (hk : c < k) (hk' : k < n) : BSt D n c (-sg) (swapR M k c) (swapL T k c) := by
  refine ⟨by rcases h.sgn with e | e <;> rw [e] <;> simp, ?_, fun i j => h.bd _ _, by rw [lead_swap c M k c (by omega) (Nat.le_refl _)]; exact h.lead, fun i j hi hj hi' hj' => ?_⟩
  · rw [G_swap' (-1) (by decide) n k c M hk' hc (by omega), ← h.det]
    generalize G (-1) n M = x
    rcases h.sgn with e | e <;> rw [e] <;> omega
  · rw [fn_swapL hs hk' hc, B_swap c M k c i j (by omega) (Nat.le_refl _) hi]
    refine h.val _ _ ?_ hj (sw_lt hk' hc hi') hj'
    unfold sw
    split; omega; split <;> omega
/-- within a step: rows before i are done, and of row i what is before j -/
def BIn (n c : Nat) (M : Nat → Nat → Int) (T : List (List Int)) (i j : Nat) : Prop :=
  ∀ a b, c ≤ a → c ≤ b → a < n → b < n → fn T a b = if c < a ∧ c < b ∧ (a < i ∨ a = i ∧ b < j) then B (c + 1) M a b else B c M a b
theorem BIn.start {D : Int} {n c : Nat} {sg : Int} {M : Nat → Nat → Int} {T : List (List Int)} (h : BSt D n c sg M T) : BIn n c M T (c + 1) (c + 1) := by
  intro a b ha hb ha' hb'
  rw [if_neg (by omega)]
  exact h.val a b ha hb ha' hb'
theorem BIn.next {n c : Nat} {M : Nat → Nat → Int} {T : List (List Int)} {i : Nat} (h : BIn n c M T i n) : BIn n c M T (i + 1) (c + 1) := by
  intro a b ha hb ha' hb'
  rw [h a b ha hb ha' hb']
  by_cases h1 : c < a ∧ c < b ∧ (a < i ∨ a = i ∧ b < n)
  · rw [if_pos h1, if_pos (by omega)]
  · rw [if_neg h1, if_neg (by omega)]
theorem BIn.step {n c : Nat} {M : Nat → Nat → Int} {T : List (List Int)} {i j : Nat} (h : BIn n c M T i j) (hs : Sq n T) (hi : c < i) (hj : c < j) (hi' : i < n) (hj' : j < n) : BIn n c M (putE T i j (B (c + 1) M i j)) i (j + 1) := by
  intro a b ha hb ha' hb'
  rw [fn_put hs hi' hj', h a b ha hb ha' hb']
  by_cases h1 : a = i ∧ b = j
  · rw [if_pos h1, if_pos (by omega), h1.1, h1.2]
  · rw [if_neg h1]
    by_cases h2 : c < a ∧ c < b ∧ (a < i ∨ a = i ∧ b < j)
    · rw [if_pos h2, if_pos (by omega)]
    · rw [if_neg h2, if_neg (by omega)]
theorem BIn.row {n c : Nat} {M : Nat → Nat → Int} {T : List (List Int)} {i j : Nat} (h : BIn n c M T i j) (hc : c < n) {b : Nat} (hb : c ≤ b) (hb' : b < n) : fn T c b = B c M c b := by
  rw [h c b (Nat.le_refl _) hb hc hb', if_neg (by omega)]
theorem BIn.col {n c : Nat} {M : Nat → Nat → Int} {T : List (List Int)} {i j : Nat} (h : BIn n c M T i j) (hc : c < n) {a : Nat} (ha : c ≤ a) (ha' : a < n) : fn T a c = B c M a c := by
  rw [h a c ha (Nat.le_refl _) ha' hc, if_neg (by omega)]
theorem BIn.here {n c : Nat} {M : Nat → Nat → Int} {T : List (List Int)} {i j : Nat} (h : BIn n c M T i j) (hi : c ≤ i) (hj : c ≤ j) (hi' : i < n) (hj' : j < n) : fn T i j = B c M i j := by
  rw [h i j hi hj hi' hj', if_neg (by omega)]
/-- a step done -/
theorem BSt.next {D : Int} {n c : Nat} {sg : Int} {M : Nat → Nat → Int} {T T' : List (List Int)} (h : BSt D n c sg M T) (hc : c + 1 < n) (hp : B c M c c ≠ 0) (hin : BIn n c M T' n (c + 1)) : BSt D n (c + 1) sg M T' := by
  refine ⟨h.sgn, h.det, h.bd, by rw [← B_lead]; exact hp, fun i j hi hj hi' hj' => ?_⟩
  rw [hin i j (by omega) (by omega) hi' hj', if_pos (by omega)]
theorem BSt.fin {D : Int} {n c : Nat} {sg : Int} {M : Nat → Nat → Int} {T : List (List Int)} (h : BSt D n c sg M T) (hc : c + 1 = n) : sg * fn T c c = D := by
  rw [h.val c c (Nat.le_refl _) (Nat.le_refl _) (by omega) (by omega), B_lead, hc, h.det]
end Go.Proofs.Ytkelnkcigbghkaa
