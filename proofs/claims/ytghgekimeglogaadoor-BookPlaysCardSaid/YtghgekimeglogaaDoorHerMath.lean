/- Plain law: the sums of rows, with whole numbers before them; what does not change them; the normal form. No program in sight. -/
import Derived.Test.YtghgekimeglogaaDoorAlg
import Derived.Test.YtghgekimeglogaaDoorRowsLaw
namespace Go.Proofs.YtghgekimeglogaaDoor
open Go.RowKit
set_option linter.unusedVariables false
set_option linter.unusedSimpArgs false

/-- x is a sum of the rows of M, each so many times -/
def Lat (n : Nat) (M : Nat → Nat → Int) (x : Nat → Int) : Prop := ∃ c : Nat → Int, ∀ j, j < n → x j = sumTo (fun i => c i * M i j) n

theorem sum_one (n i : Nat) (hi : i < n) (f : Nat → Int) (hf : ∀ k, k < n → k ≠ i → f k = 0) : sumTo f n = f i := by
  induction n with
  | zero => omega
  | succ n ih =>
    rw [sumTo]
    by_cases h : i = n
    · subst h
      have : sumTo f i = sumTo (fun _ => 0) i := sumTo_congr fun k hk => hf k (by omega) (by omega)
      rw [this, sumTo_zero]; omega
    · rw [ih (by omega) (fun k hk hne => hf k (by omega) hne), hf n (by omega) (by omega)]; omega
theorem lat_row {n i : Nat} (M : Nat → Nat → Int) (hi : i < n) : Lat n M (M i) := by
  refine ⟨fun k => if k = i then 1 else 0, fun j hj => ?_⟩
  rw [sum_one n i hi _ (fun k hk hne => by simp [hne])]
  simp
theorem lat_congr {n : Nat} {M N : Nat → Nat → Int} {x y : Nat → Int} (h : Lat n M x) (hM : ∀ i j, i < n → j < n → M i j = N i j) (hx : ∀ j, j < n → x j = y j) : Lat n N y := by
  obtain ⟨c, hc⟩ := h
  exact ⟨c, fun j hj => by rw [← hx j hj, hc j hj]; exact sumTo_congr fun i hi => by rw [hM i j hi hj]⟩
theorem lat_lin {n : Nat} {M : Nat → Nat → Int} {x y : Nat → Int} (h : Lat n M x) (k : Lat n M y) (a b : Int) : Lat n M (fun j => a * x j + b * y j) := by
  obtain ⟨c, hc⟩ := h
  obtain ⟨d, hd⟩ := k
  refine ⟨fun i => a * c i + b * d i, fun j hj => ?_⟩
  show a * x j + b * y j = _
  rw [hc j hj, hd j hj, ← sumTo_mul, ← sumTo_mul, ← sumTo_add]
  exact sumTo_congr fun i hi => by grind
theorem lat_zero (n : Nat) (M : Nat → Nat → Int) : Lat n M (fun _ => 0) := ⟨fun _ => 0, fun j hj => by simp [sumTo_zero]⟩
theorem lat_sum {n : Nat} {M N : Nat → Nat → Int} (h : ∀ i, i < n → Lat n M (N i)) (c : Nat → Int) : ∀ k, k ≤ n → Lat n M (fun j => sumTo (fun i => c i * N i j) k) := by
  intro k
  induction k with
  | zero => intro _; exact lat_zero n M
  | succ k ih =>
    intro hk
    have := lat_lin (ih (by omega)) (h k (by omega)) 1 (c k)
    refine lat_congr this (fun _ _ _ _ => rfl) (fun j hj => ?_)
    rw [sumTo]; omega
theorem lat_sub {n : Nat} {M N : Nat → Nat → Int} (h : ∀ i, i < n → Lat n M (N i)) {x : Nat → Int} (hx : Lat n N x) : Lat n M x := by
  obtain ⟨c, hc⟩ := hx
  exact lat_congr (lat_sum h c n (Nat.le_refl n)) (fun _ _ _ _ => rfl) (fun j hj => (hc j hj).symm)

/-- both have the same sums, and the same determinant but for its sign -/
def Like (n : Nat) (M N : Nat → Nat → Int) : Prop := (∀ x, Lat n M x ↔ Lat n N x) ∧ (G (-1) n N = G (-1) n M ∨ G (-1) n N = -G (-1) n M)
theorem Like.refl (n : Nat) (M : Nat → Nat → Int) : Like n M M := ⟨fun _ => Iff.rfl, Or.inl rfl⟩
theorem Like.trans {n : Nat} {M N K : Nat → Nat → Int} (h : Like n M N) (k : Like n N K) : Like n M K := by
  refine ⟨fun x => (h.1 x).trans (k.1 x), ?_⟩
  rcases h.2 with h2 | h2 <;> rcases k.2 with k2 | k2 <;> rw [k2, h2]
  · exact Or.inl rfl
  · exact Or.inr rfl
  · exact Or.inr rfl
  · exact Or.inl (by omega)
theorem Like.symm {n : Nat} {M N : Nat → Nat → Int} (h : Like n M N) : Like n N M := by
  refine ⟨fun x => (h.1 x).symm, ?_⟩
  rcases h.2 with h2 | h2 <;> rw [h2]
  · exact Or.inl rfl
  · exact Or.inr (by omega)
theorem like_congr {n : Nat} {M N : Nat → Nat → Int} (h : ∀ i j, i < n → j < n → M i j = N i j) : Like n M N :=
  ⟨fun x => ⟨fun k => lat_congr k h (fun _ _ => rfl), fun k => lat_congr k (fun i j hi hj => (h i j hi hj).symm) (fun _ _ => rfl)⟩, Or.inl (G_congr (-1) n (fun i j hi hj => (h i j hi hj).symm))⟩
theorem neg1 : (-1 : Int) * -1 = 1 := by decide
/-- row i less so many times row k -/
theorem like_less {n i k : Nat} (hi : i < n) (hk : k < n) (hik : i ≠ k) (M : Nat → Nat → Int) (t : Int) : Like n M (setRow M i (fun j => M i j - t * M k j)) := by
  have hN : ∀ a, setRow M i (fun j => M i j - t * M k j) a = if a = i then (fun j => M i j - t * M k j) else M a := fun a => by funext b; simp only [setRow]; split <;> rfl
  refine ⟨fun x => ⟨lat_sub fun a ha => ?_, lat_sub fun a ha => ?_⟩, Or.inl ?_⟩
  · by_cases h : a = i
    · subst h
      have h1 := lat_row (setRow M a (fun j => M a j - t * M k j)) ha
      have h2 := lat_row (setRow M a (fun j => M a j - t * M k j)) hk
      refine lat_congr (lat_lin h1 h2 1 t) (fun _ _ _ _ => rfl) (fun j hj => ?_)
      rw [hN, hN, if_pos rfl, if_neg (fun h => hik h.symm)]; try simp only []
      omega
    · have := lat_row (setRow M i (fun j => M i j - t * M k j)) ha
      rw [hN, if_neg h] at this
      exact this
  · by_cases h : a = i
    · subst h
      refine lat_congr (lat_lin (lat_row M ha) (lat_row M hk) 1 (-t)) (fun _ _ _ _ => rfl) (fun j hj => ?_)
      rw [hN, if_pos rfl]; try simp only []
      grind
    · rw [hN, if_neg h]; exact lat_row M ha
  · have := det_add n i k M (-t) hi hk hik
    rw [← this]
    refine congrArg (fun r => G (-1) n (setRow M i r)) ?_
    funext j
    grind
/-- a row below 0 -/
theorem like_neg {n i : Nat} (hi : i < n) (M : Nat → Nat → Int) : Like n M (setRow M i (fun j => -1 * M i j)) := by
  have hN : ∀ a, setRow M i (fun j => -1 * M i j) a = if a = i then (fun j => -1 * M i j) else M a := fun a => by funext b; simp only [setRow]; split <;> rfl
  refine ⟨fun x => ⟨lat_sub fun a ha => ?_, lat_sub fun a ha => ?_⟩, Or.inr ?_⟩
  · by_cases h : a = i
    · subst h
      have h1 := lat_row (setRow M a (fun j => -1 * M a j)) ha
      refine lat_congr (lat_lin h1 h1 (-1) 0) (fun _ _ _ _ => rfl) (fun j hj => ?_)
      rw [hN, if_pos rfl]; try simp only []
      omega
    · have := lat_row (setRow M i (fun j => -1 * M i j)) ha
      rw [hN, if_neg h] at this
      exact this
  · by_cases h : a = i
    · subst h
      refine lat_congr (lat_lin (lat_row M ha) (lat_row M ha) (-1) 0) (fun _ _ _ _ => rfl) (fun j hj => ?_)
      rw [hN, if_pos rfl]; try simp only []
      omega
    · rw [hN, if_neg h]; exact lat_row M ha
  · rw [G_scale (-1) neg1 n i hi M (-1)]; omega
theorem sw_sw (p q a : Nat) : sw p q (sw p q a) = a := by
  unfold sw
  by_cases h1 : a = p
  · subst h1
    rw [if_pos rfl]
    by_cases h2 : q = a
    · rw [if_pos h2, h2]
    · rw [if_neg h2, if_pos rfl]
  · rw [if_neg h1]
    by_cases h2 : a = q
    · rw [if_pos h2, if_pos rfl, h2]
    · rw [if_neg h2, if_neg h1, if_neg h2]
/-- two rows exchanged -/
theorem like_swap {n p q : Nat} (hp : p < n) (hq : q < n) (hpq : p ≠ q) (M : Nat → Nat → Int) : Like n M (swapR M p q) := by
  have hlt : ∀ a, a < n → sw p q a < n := fun a ha => by unfold sw; split; exact hq; split; exact hp; exact ha
  refine ⟨fun x => ⟨lat_sub fun a ha => ?_, lat_sub fun a ha => ?_⟩, Or.inr ?_⟩
  · have := lat_row (swapR M p q) (hlt a ha)
    have e : swapR M p q (sw p q a) = M a := by
      have : swapR M p q (sw p q a) = M (sw p q (sw p q a)) := rfl
      rw [this, sw_sw]
    rw [e] at this
    exact this
  · have e : swapR M p q a = M (sw p q a) := rfl
    rw [e]
    exact lat_row M (hlt a ha)
  · rw [G_swap' (-1) neg1 n p q M hp hq hpq]; omega
end Go.Proofs.YtghgekimeglogaaDoor
