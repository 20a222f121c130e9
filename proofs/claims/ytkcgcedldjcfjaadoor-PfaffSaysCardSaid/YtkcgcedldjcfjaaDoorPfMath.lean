/- Plain law: Pfaffians to six rows. No program in sight. -/
import Derived.Test.YtkcgcedldjcfjaaDoorRowsLaw
namespace Go.Proofs.YtkcgcedldjcfjaaDoor
open Go.RowKit
set_option linter.unusedVariables false
set_option linter.unusedSimpArgs false

/-- the Pfaffian, by the first row -/
def pfN : Nat → List (List Int) → Int
  | 0, _ => 1
  | 1, _ => 0
  | n + 2, m => sumTo (fun j => sgn j * (m.getD 0 []).getD (j + 1) 0 * pfN n (cut (cut m (j + 1) (j + 1)) 0 0)) (n + 1)

def pfF : Nat → (Nat → Nat → Int) → Int
  | 0, _ => 1
  | 1, _ => 0
  | n + 2, M => sumTo (fun j => sgn j * M 0 (j + 1) * pfF n (minor (minor M (j + 1) (j + 1)) 0 0)) (n + 1)

theorem pfN_F (n : Nat) (m : List (List Int)) : pfN n m = pfF n (fn m) := by
  induction n using Nat.strongRecOn generalizing m with
  | _ n ih =>
    match n, ih with
    | 0, _ => rfl
    | 1, _ => rfl
    | n + 2, ih =>
      rw [pfN, pfF]
      refine sumTo_congr fun j hj => ?_
      rw [ih n (by omega), fn_cut, fn_cut]
      rfl

def Skew (n : Nat) (M : Nat → Nat → Int) : Prop := ∀ i j, i < n → j < n → M j i = -M i j
theorem Skew.diag {n : Nat} {M : Nat → Nat → Int} (h : Skew n M) {i : Nat} (hi : i < n) : M i i = 0 := by
  have := h i i hi hi
  omega

theorem pf2 (M : Nat → Nat → Int) : pfF 2 M = M 0 1 := by
  simp [pfF, sumTo, sgn]
theorem pf4 (M : Nat → Nat → Int) : pfF 4 M = M 0 1 * M 2 3 - M 0 2 * M 1 3 + M 0 3 * M 1 2 := by
  simp [pfF, sumTo, sgn, minor, sk]
  grind
def pf6 (M : Nat → Nat → Int) : Int :=
  M 0 1 * (M 2 3 * M 4 5 - M 2 4 * M 3 5 + M 2 5 * M 3 4) - M 0 2 * (M 1 3 * M 4 5 - M 1 4 * M 3 5 + M 1 5 * M 3 4) + M 0 3 * (M 1 2 * M 4 5 - M 1 4 * M 2 5 + M 1 5 * M 2 4)
    - M 0 4 * (M 1 2 * M 3 5 - M 1 3 * M 2 5 + M 1 5 * M 2 3) + M 0 5 * (M 1 2 * M 3 4 - M 1 3 * M 2 4 + M 1 4 * M 2 3)
theorem pf6_eq (M : Nat → Nat → Int) : pfF 6 M = pf6 M := by
  unfold pf6
  simp [pfF, sumTo, sgn, minor, sk]
  grind

theorem pfF_congr (n : Nat) : ∀ {M N : Nat → Nat → Int}, (∀ i j, i < n → j < n → M i j = N i j) → pfF n M = pfF n N := by
  induction n using Nat.strongRecOn with
  | _ n ih =>
    match n, ih with
    | 0, _ => intro M N _; rfl
    | 1, _ => intro M N _; rfl
    | n + 2, ih =>
      intro M N h
      rw [pfF, pfF]
      refine sumTo_congr fun j hj => ?_
      rw [h 0 (j + 1) (by omega) (by omega), ih n (by omega) (M := minor (minor M (j + 1) (j + 1)) 0 0) (N := minor (minor N (j + 1) (j + 1)) 0 0)]
      intro a b ha hb
      unfold minor
      refine h _ _ ?_ ?_ <;> (unfold sk; repeat' split) <;> omega

/-- both a row and a column exchanged -/
def swapB (M : Nat → Nat → Int) (p q : Nat) : Nat → Nat → Int := fun a b => M (sw p q a) (sw p q b)

theorem Skew.swap {n : Nat} {M : Nat → Nat → Int} (h : Skew n M) {p q : Nat} (hp : p < n) (hq : q < n) : Skew n (swapB M p q) := fun i j hi hj => h _ _ (sw_lt hp hq hi) (sw_lt hp hq hj)
theorem swapB_comm (M : Nat → Nat → Int) (p q : Nat) : swapB M p q = swapB M q p := by
  have : ∀ a, sw p q a = sw q p a := by intro a; unfold sw; by_cases h1 : a = p <;> by_cases h2 : a = q <;> simp [h1, h2] <;> omega
  funext a b
  unfold swapB
  rw [this a, this b]

set_option maxHeartbeats 4000000 in
theorem pf_next (n : Nat) (hn : n ≤ 6) (he : n % 2 = 0) (M : Nat → Nat → Int) (h : Skew n M) (p : Nat) (hp : p + 1 < n) : pfF n (swapB M p (p + 1)) = -pfF n M := by
  have hn' : n = 2 ∨ n = 4 ∨ n = 6 := by omega
  rcases hn' with rfl | rfl | rfl
  · obtain rfl : p = 0 := by omega
    rw [pf2, pf2]
    exact h 0 1 (by omega) (by omega)
  · rw [pf4, pf4]
    have h01 := h 0 1 (by omega) (by omega)
    have h12 := h 1 2 (by omega) (by omega)
    have h23 := h 2 3 (by omega) (by omega)
    clear h
    have hc : p = 0 ∨ p = 1 ∨ p = 2 := by omega
    rcases hc with rfl | rfl | rfl <;> (simp [swapB, sw, h01, h12, h23]; clear h01 h12 h23; grind)
  · rw [pf6_eq, pf6_eq]
    have h01 := h 0 1 (by omega) (by omega)
    have h12 := h 1 2 (by omega) (by omega)
    have h23 := h 2 3 (by omega) (by omega)
    have h34 := h 3 4 (by omega) (by omega)
    have h45 := h 4 5 (by omega) (by omega)
    clear h
    have hc : p = 0 ∨ p = 1 ∨ p = 2 ∨ p = 3 ∨ p = 4 := by omega
    rcases hc with rfl | rfl | rfl | rfl | rfl <;> (simp [pf6, swapB, sw, h01, h12, h23, h34, h45]; clear h01 h12 h23 h34 h45; grind)

theorem pf_swap (n : Nat) (hn : n ≤ 6) (he : n % 2 = 0) (M : Nat → Nat → Int) (h : Skew n M) (p q : Nat) (hp : p < n) (hq : q < n) (hpq : p ≠ q) : pfF n (swapB M p q) = -pfF n M := by
  have H : ∀ d p q M, Skew n M → p < q → q < n → q - p = d + 1 → pfF n (swapB M p q) = -pfF n M := by
    intro d
    induction d with
    | zero =>
      intro p q M h hpq hq hd
      obtain rfl : q = p + 1 := by omega
      exact pf_next n hn he M h p hq
    | succ d ih =>
      intro p q M h hpq hq hd
      obtain ⟨s, rfl⟩ : ∃ s, q = s + 1 := ⟨q - 1, by omega⟩
      have e : swapB M p (s + 1) = swapB (swapB (swapB M s (s + 1)) p s) s (s + 1) := by
        have : ∀ a, sw p (s + 1) a = sw s (s + 1) (sw p s (sw s (s + 1) a)) := by
          intro a
          unfold sw
          by_cases h1 : a = p
          · rw [if_pos h1, if_neg (show ¬ a = s by omega), if_neg (show ¬ a = s + 1 by omega), if_pos h1, if_pos rfl]
          · by_cases h2 : a = s
            · rw [if_neg h1, if_neg (show ¬ a = s + 1 by omega), if_pos h2, if_neg (show ¬ s + 1 = p by omega), if_neg (show ¬ s + 1 = s by omega), if_neg (show ¬ s + 1 = s by omega), if_pos rfl, h2]
            · by_cases h3 : a = s + 1
              · rw [if_neg h1, if_pos h3, if_neg h2, if_pos h3, if_neg (show ¬ s = p by omega), if_pos rfl, if_neg (show ¬ p = s by omega), if_neg (show ¬ p = s + 1 by omega)]
              · rw [if_neg h1, if_neg h3, if_neg h2, if_neg h3, if_neg h1, if_neg h2, if_neg h2, if_neg h3]
        funext a b
        unfold swapB
        rw [this a, this b]
      have s1 := h.swap (p := s) (q := s + 1) (by omega) hq
      have s2 := s1.swap (p := p) (q := s) (by omega) (by omega)
      rw [e, pf_next n hn he _ s2 s hq, ih p s _ s1 (by omega) (by omega) (by omega), pf_next n hn he M h s hq]
      omega
  rcases Nat.lt_or_gt_of_ne hpq with hlt | hlt
  · exact H (q - p - 1) p q M h hlt hq (by omega)
  · rw [swapB_comm]
    exact H (p - q - 1) q p M h hlt hp (by omega)
end Go.Proofs.YtkcgcedldjcfjaaDoor
