/- Plain law: the permanent as the sum over all orders of the columns, row by row. No program in sight. -/
import Derived.Test.YtacdhgenpcgddaaAlg
namespace Go.Proofs.Ytacdhgenpcgddaa
open Go.RowKit
set_option linter.unusedVariables false
set_option linter.unusedSimpArgs false

/-- the columns of used being taken, k rows being left of n -/
def permU (n : Nat) (M : Nat → Nat → Int) : Nat → List Int → Int
  | 0, _ => 1
  | k + 1, used => sumTo (fun j => if (j : Int) ∈ used then 0 else M (n - (k + 1)) j * permU n M k (used ++ [(j : Int)])) n
/-- the columns that are left -/
def leftL (n : Nat) (used : List Int) : List Nat := (List.range n).filter fun j => decide ¬ (j : Int) ∈ used
theorem sumTo_append (f : Nat → Int) (L : List Nat) (x : Nat) : sumTo (fun b => f ((L ++ [x]).getD b 0)) (L ++ [x]).length = sumTo (fun b => f (L.getD b 0)) L.length + f x := by
  rw [List.length_append, List.length_singleton, sumTo]
  congr 1
  · exact sumTo_congr fun b hb => by simp [List.getD, List.getElem?_append_left hb]
  · simp [List.getD]
theorem sum_left (p : Nat → Bool) (f : Nat → Int) (n : Nat) : sumTo (fun j => if p j = true then f j else 0) n = sumTo (fun b => f (((List.range n).filter p).getD b 0)) ((List.range n).filter p).length := by
  induction n with
  | zero => rfl
  | succ n ih =>
    rw [sumTo, ih, List.range_succ, List.filter_append]
    by_cases h : p n = true
    · rw [if_pos h]
      have : List.filter p [n] = [n] := by simp [h]
      rw [this, sumTo_append]
    · rw [if_neg h]
      have : List.filter p [n] = [] := by simp [h]
      rw [this, List.append_nil]; omega
theorem left_nodup (n : Nat) (used : List Int) : (leftL n used).Nodup := List.Pairwise.filter _ List.nodup_range
theorem filter_idx : ∀ (L : List Nat) (b : Nat) (hb : b < L.length), L.Nodup → L.filter (fun j => decide (j ≠ L[b])) = L.eraseIdx b := by
  intro L
  induction L with
  | nil => intro b hb _; cases hb
  | cons x xs ih =>
    intro b hb hn
    have hn2 := List.nodup_cons.1 hn
    match b, hb with
    | 0, _ =>
      show List.filter _ (x :: xs) = xs
      rw [List.filter_cons_of_neg (by simp)]
      refine List.filter_eq_self.2 fun j hj => ?_
      have : j ≠ x := fun h => hn2.1 (h ▸ hj)
      simpa using this
    | b + 1, hb =>
      have hb' : b < xs.length := by simpa using hb
      show List.filter (fun j => decide (j ≠ xs[b])) (x :: xs) = x :: xs.eraseIdx b
      have hx : x ≠ xs[b] := fun h => hn2.1 (h ▸ List.getElem_mem hb')
      rw [List.filter_cons_of_pos (by simpa using hx), ih b hb' hn2.2]
theorem left_cut (n : Nat) (used : List Int) {b : Nat} (hb : b < (leftL n used).length) : leftL n (used ++ [(((leftL n used).getD b 0 : Nat) : Int)]) = (leftL n used).eraseIdx b := by
  have e : (leftL n used).getD b 0 = (leftL n used)[b] := by simp [List.getD, hb]
  rw [e, ← filter_idx _ b hb (left_nodup n used)]
  generalize (leftL n used)[b] = x
  unfold leftL
  rw [List.filter_filter]
  refine List.filter_congr fun j _ => ?_
  by_cases h1 : j = x
  · subst h1; simp
  · have h2 : ¬ ((j : Int) = (x : Int)) := by omega
    by_cases h3 : (j : Int) ∈ used <;> simp [h1, h2, h3]
theorem permU_G (n : Nat) (M : Nat → Nat → Int) : ∀ (k : Nat) (used : List Int), k ≤ n → (leftL n used).length = k → permU n M k used = G 1 k (fun a b => M (n - k + a) ((leftL n used).getD b 0)) := by
  intro k
  induction k with
  | zero => intro used _ _; rfl
  | succ k ih =>
    intro used hk hl
    rw [permU]
    have e1 : (fun j : Nat => if (j : Int) ∈ used then 0 else M (n - (k + 1)) j * permU n M k (used ++ [(j : Int)])) = fun j : Nat => if (decide ¬ (j : Int) ∈ used) = true then M (n - (k + 1)) j * permU n M k (used ++ [(j : Int)]) else 0 := by
      funext j
      by_cases h : (j : Int) ∈ used <;> simp [h]
    rw [e1, sum_left (fun j : Nat => decide ¬ (j : Int) ∈ used) (fun j : Nat => M (n - (k + 1)) j * permU n M k (used ++ [(j : Int)]))]
    show sumTo (fun b => M (n - (k + 1)) ((leftL n used).getD b 0) * permU n M k (used ++ [(((leftL n used).getD b 0 : Nat) : Int)])) (leftL n used).length = _
    rw [hl, G]
    refine sumTo_congr fun b hb => ?_
    have hb' : b < (leftL n used).length := by omega
    have hc := left_cut n used hb'
    have hlen : (leftL n (used ++ [(((leftL n used).getD b 0 : Nat) : Int)])).length = k := by
      rw [hc, List.length_eraseIdx_of_lt hb', hl]; rfl
    rw [ih _ (by omega) hlen, pw_one, Int.one_mul, Nat.add_zero]
    congr 1
    refine G_congr 1 k fun a c ha hcc => ?_
    rw [hc]
    show M (n - k + a) _ = M (n - (k + 1) + sk 0 a) ((leftL n used).getD (sk b c) 0)
    have e2 : sk 0 a = a + 1 := by unfold sk; rw [if_neg (by omega)]
    rw [e2, show n - (k + 1) + (a + 1) = n - k + a by omega]
    congr 1
    rw [List.getD_eq_getElem?_getD, List.getElem?_eraseIdx, List.getD_eq_getElem?_getD]
    unfold sk
    by_cases h : c < b
    · rw [if_pos h, if_pos h]
    · rw [if_neg h, if_neg h]
theorem permU_all (n : Nat) (M : Nat → Nat → Int) : permU n M n [] = G 1 n M := by
  have hl : leftL n [] = List.range n := by simp [leftL]
  rw [permU_G n M n [] (Nat.le_refl n) (by rw [hl]; simp)]
  refine G_congr 1 n fun a b ha hb => ?_
  rw [hl]
  simp [List.getD, hb]
end Go.Proofs.Ytacdhgenpcgddaa
