/- Plain law: ways that do not meet: the determinants of at most three rows, looked up one by one. No program in sight. -/
import Derived.Test.YthbfeecbaanegaaPathMath
import Derived.Test.YthbfeecbaanegaaWaysMath
import Derived.Test.YthbfeecbaanegaaAlg
namespace Go.Proofs.Ythbfeecbaanegaa
open Go.RowKit
set_option linter.unusedVariables false
set_option linter.unusedSimpArgs false

/-- how many ways there are -/
def wayTab : List (List Nat) := [[1,1,1,1,1,1,1],[1,2,3,4,5,6,7],[1,3,6,10,15,21,28],[1,4,10,20,35,56,84],[1,5,15,35,70,126,210]]
def wy (w a b : Nat) : Int := if b < a then 0 else ((wayTab.getD w []).getD (b - a) 0 : Nat)
def wd2 (w a b a' b' : Nat) : Int := wy w a a' * wy w b b' - wy w a b' * wy w b a'
def wd3 (w a b c a' b' c' : Nat) : Int := wy w a a' * wd2 w b c b' c' - wy w a b' * wd2 w b c a' c' + wy w a c' * wd2 w b c a' b'
def al (n : Nat) (p : Nat → Bool) : Bool := (List.range n).all p
theorem al_spec {n : Nat} {p : Nat → Bool} (h : al n p = true) {i : Nat} (hi : i < n) : p i = true := by
  unfold al at h
  rw [List.all_eq_true] at h
  exact h i (List.mem_range.2 hi)
def ok1 (w a a' : Nat) : Bool := decide (waysZ w ((a' : Int) - a) = wy w a a') && decide (0 ≤ wy w a a') && decide (wy w a a' ≤ 210) && (decide (a' < a) || decide (1 ≤ wy w a a')) && decide (wy w (6 - a') (6 - a) = wy w a a') && (decide (a ≤ a') || decide (wy w a a' = 0))
def ok2 (w a b a' b' : Nat) : Bool := decide (0 ≤ wd2 w a b a' b') && decide (wd2 w a b a' b' ≤ 100000000) && decide (wd2 w (6-b') (6-a') (6-b) (6-a) = wd2 w a b a' b') && (decide (a' < a) || decide (wd2 w a b a' b' ≤ wy w b b' * wy w a a')) && (decide (a ≤ a') || decide (wd2 w a b a' b' = 0))
def ok3 (w a b c a' b' c' : Nat) : Bool := decide (0 ≤ wd3 w a b c a' b' c') && decide (wd3 w a b c a' b' c' ≤ 100000000) && decide (wd3 w (6-c') (6-b') (6-a') (6-c) (6-b) (6-a) = wd3 w a b c a' b' c') && (decide (a' < a) || decide (wd3 w a b c a' b' c' ≤ wd2 w b c b' c' * wy w a a')) && (decide (a ≤ a') || decide (wd3 w a b c a' b' c' = 0))
theorem all1 : (al 5 fun w => al 7 fun a => al 7 fun a' => ok1 w a a') = true := by decide +kernel
theorem all2 : (al 5 fun w => al 7 fun b => al b fun a => al 7 fun b' => al b' fun a' => ok2 w a b a' b') = true := by decide +kernel
theorem all3 : (al 5 fun w => al 7 fun c => al c fun b => al b fun a => al 7 fun c' => al c' fun b' => al b' fun a' => ok3 w a b c a' b' c') = true := by decide +kernel
theorem way_ok {w a a' : Nat} (hw : w < 5) (ha : a < 7) (ha' : a' < 7) : waysZ w ((a' : Int) - a) = wy w a a' ∧ 0 ≤ wy w a a' ∧ wy w a a' ≤ 210 ∧ (a ≤ a' → 1 ≤ wy w a a') ∧ wy w (6 - a') (6 - a) = wy w a a' ∧ (a' < a → wy w a a' = 0) := by
  have h := al_spec (al_spec (al_spec all1 hw) ha) ha'
  simp only [ok1, Bool.and_eq_true, Bool.or_eq_true, decide_eq_true_eq] at h
  obtain ⟨⟨⟨⟨⟨h1, h2⟩, h3⟩, h4⟩, h5⟩, h6⟩ := h
  exact ⟨h1, h2, h3, fun h => by omega, h5, fun h => by omega⟩
theorem two_ok {w a b a' b' : Nat} (hw : w < 5) (hb : b < 7) (ha : a < b) (hb' : b' < 7) (ha' : a' < b') : 0 ≤ wd2 w a b a' b' ∧ wd2 w a b a' b' ≤ 100000000 ∧ wd2 w (6-b') (6-a') (6-b) (6-a) = wd2 w a b a' b' ∧ (a ≤ a' → wd2 w a b a' b' ≤ wy w b b' * wy w a a') ∧ (a' < a → wd2 w a b a' b' = 0) := by
  have h := al_spec (al_spec (al_spec (al_spec (al_spec all2 hw) hb) ha) hb') ha'
  simp only [ok2, Bool.and_eq_true, Bool.or_eq_true, decide_eq_true_eq] at h
  obtain ⟨⟨⟨⟨h1, h2⟩, h3⟩, h4⟩, h5⟩ := h
  exact ⟨h1, h2, h3, fun h => by omega, fun h => by omega⟩
theorem three_ok {w a b c a' b' c' : Nat} (hw : w < 5) (hc : c < 7) (hb : b < c) (ha : a < b) (hc' : c' < 7) (hb' : b' < c') (ha' : a' < b') : 0 ≤ wd3 w a b c a' b' c' ∧ wd3 w a b c a' b' c' ≤ 100000000 ∧ wd3 w (6-c') (6-b') (6-a') (6-c) (6-b) (6-a) = wd3 w a b c a' b' c' ∧
    (a ≤ a' → wd3 w a b c a' b' c' ≤ wd2 w b c b' c' * wy w a a') ∧ (a' < a → wd3 w a b c a' b' c' = 0) := by
  have h := al_spec (al_spec (al_spec (al_spec (al_spec (al_spec (al_spec all3 hw) hc) hb) ha) hc') hb') ha'
  simp only [ok3, Bool.and_eq_true, Bool.or_eq_true, decide_eq_true_eq] at h
  obtain ⟨⟨⟨⟨h1, h2⟩, h3⟩, h4⟩, h5⟩ := h
  exact ⟨h1, h2, h3, fun h => by omega, fun h => by omega⟩

/-- the ways from each to each -/
def wayF (w : Nat) (f t : List Int) : Nat → Nat → Int := fun i j => waysZ w (t.getD j 0 - f.getD i 0)
/-- what paths.Apart answers -/
def apartV (width : Int) (f t : List Int) : Int := if pathErr width f t = 0 then G (-1) f.length (wayF width.toNat f t) else 0
theorem G_1 (s : Int) (M : Nat → Nat → Int) : G s 1 M = M 0 0 := by simp [G, sumTo, pw]
theorem G_2 (M : Nat → Nat → Int) : G (-1) 2 M = M 0 0 * M 1 1 - M 0 1 * M 1 0 := by
  simp [G, sumTo, pw, minor, sk]
  grind
theorem G_3 (M : Nat → Nat → Int) : G (-1) 3 M = M 0 0 * (M 1 1 * M 2 2 - M 1 2 * M 2 1) - M 0 1 * (M 1 0 * M 2 2 - M 1 2 * M 2 0) + M 0 2 * (M 1 0 * M 2 1 - M 1 1 * M 2 0) := by
  simp [G, sumTo, pw, minor, sk]
  grind
theorem rise_one {l : List Int} (h : riseErr l = 0) (hl : l.length = 1) : ∃ a : Nat, l = [(a : Int)] ∧ a < 7 := by
  obtain ⟨h1, h2⟩ := riseFrom_good l (-1) h
  match l, hl with
  | [x], _ =>
    have := h1 x (by simp)
    obtain ⟨a, rfl⟩ := Int.eq_ofNat_of_zero_le this.1
    exact ⟨a, rfl, by omega⟩
theorem rise_two {l : List Int} (h : riseErr l = 0) (hl : l.length = 2) : ∃ a b : Nat, l = [(a : Int), (b : Int)] ∧ a < b ∧ b < 7 := by
  obtain ⟨h1, h2⟩ := riseFrom_good l (-1) h
  match l, hl with
  | [x, y], _ =>
    have hx := h1 x (by simp)
    have hy := h1 y (by simp)
    obtain ⟨a, rfl⟩ := Int.eq_ofNat_of_zero_le hx.1
    obtain ⟨b, rfl⟩ := Int.eq_ofNat_of_zero_le hy.1
    simp at h2
    exact ⟨a, b, rfl, by omega, by omega⟩
theorem rise_three {l : List Int} (h : riseErr l = 0) (hl : l.length = 3) : ∃ a b c : Nat, l = [(a : Int), (b : Int), (c : Int)] ∧ a < b ∧ b < c ∧ c < 7 := by
  obtain ⟨h1, h2⟩ := riseFrom_good l (-1) h
  match l, hl with
  | [x, y, z], _ =>
    have hx := h1 x (by simp)
    have hy := h1 y (by simp)
    have hz := h1 z (by simp)
    obtain ⟨a, rfl⟩ := Int.eq_ofNat_of_zero_le hx.1
    obtain ⟨b, rfl⟩ := Int.eq_ofNat_of_zero_le hy.1
    obtain ⟨c, rfl⟩ := Int.eq_ofNat_of_zero_le hz.1
    simp at h2
    exact ⟨a, b, c, rfl, by omega, by omega, by omega⟩
/-- what heights that are right look like -/
theorem path_cases {width : Int} {f t : List Int} (h : pathErr width f t = 0) : ∃ w : Nat, width = w ∧ w < 5 ∧
    ((∃ a a' : Nat, f = [(a : Int)] ∧ t = [(a' : Int)] ∧ a < 7 ∧ a' < 7) ∨
     (∃ a b a' b' : Nat, f = [(a : Int), (b : Int)] ∧ t = [(a' : Int), (b' : Int)] ∧ a < b ∧ b < 7 ∧ a' < b' ∧ b' < 7) ∨
     (∃ a b c a' b' c' : Nat, f = [(a : Int), (b : Int), (c : Int)] ∧ t = [(a' : Int), (b' : Int), (c' : Int)] ∧ a < b ∧ b < c ∧ c < 7 ∧ a' < b' ∧ b' < c' ∧ c' < 7)) := by
  obtain ⟨h1, h2, h3, h4, h5, h6, h7⟩ := pathErr_good h
  obtain ⟨w, rfl⟩ := Int.eq_ofNat_of_zero_le h1
  refine ⟨w, rfl, by omega, ?_⟩
  have hc : f.length = 1 ∨ f.length = 2 ∨ f.length = 3 := by omega
  rcases hc with hc | hc | hc
  · obtain ⟨a, rfl, ha⟩ := rise_one h6 hc
    obtain ⟨a', rfl, ha'⟩ := rise_one h7 (by omega)
    exact Or.inl ⟨a, a', rfl, rfl, ha, ha'⟩
  · obtain ⟨a, b, rfl, hb, hc⟩ := rise_two h6 hc
    obtain ⟨a', b', rfl, hb', hc'⟩ := rise_two h7 (by omega)
    exact Or.inr (Or.inl ⟨a, b, a', b', rfl, rfl, hb, hc, hb', hc'⟩)
  · obtain ⟨a, b, c, rfl, hb, hc, hd⟩ := rise_three h6 hc
    obtain ⟨a', b', c', rfl, hb', hc', hd'⟩ := rise_three h7 (by omega)
    exact Or.inr (Or.inr ⟨a, b, c, a', b', c', rfl, rfl, hb, hc, hd, hb', hc', hd'⟩)
theorem apart_one {w a a' : Nat} (hw : w < 5) (ha : a < 7) (ha' : a' < 7) : G (-1) 1 (wayF w [(a : Int)] [(a' : Int)]) = wy w a a' := by
  rw [G_1]
  exact (way_ok hw ha ha').1
theorem apart_two {w a b a' b' : Nat} (hw : w < 5) (hb : b < 7) (ha : a < b) (hb' : b' < 7) (ha' : a' < b') : G (-1) 2 (wayF w [(a : Int), (b : Int)] [(a' : Int), (b' : Int)]) = wd2 w a b a' b' := by
  have e : ∀ i j, wayF w [(a : Int), (b : Int)] [(a' : Int), (b' : Int)] i j = waysZ w ([(a' : Int), (b' : Int)].getD j 0 - [(a : Int), (b : Int)].getD i 0) := fun _ _ => rfl
  rw [G_2, e, e, e, e]
  show waysZ w ((a' : Int) - a) * waysZ w ((b' : Int) - b) - waysZ w ((b' : Int) - a) * waysZ w ((a' : Int) - b) = _
  rw [(way_ok hw (show a < 7 by omega) (show a' < 7 by omega)).1, (way_ok hw hb hb').1, (way_ok hw (show a < 7 by omega) hb').1, (way_ok hw hb (show a' < 7 by omega)).1]
  rfl
theorem apart_three {w a b c a' b' c' : Nat} (hw : w < 5) (hc : c < 7) (hb : b < c) (ha : a < b) (hc' : c' < 7) (hb' : b' < c') (ha' : a' < b') :
    G (-1) 3 (wayF w [(a : Int), (b : Int), (c : Int)] [(a' : Int), (b' : Int), (c' : Int)]) = wd3 w a b c a' b' c' := by
  have e : ∀ i j, wayF w [(a : Int), (b : Int), (c : Int)] [(a' : Int), (b' : Int), (c' : Int)] i j = waysZ w ([(a' : Int), (b' : Int), (c' : Int)].getD j 0 - [(a : Int), (b : Int), (c : Int)].getD i 0) := fun _ _ => rfl
  rw [G_3]
  simp only [e]
  show waysZ w ((a' : Int) - a) * (waysZ w ((b' : Int) - b) * waysZ w ((c' : Int) - c) - waysZ w ((c' : Int) - b) * waysZ w ((b' : Int) - c)) - waysZ w ((b' : Int) - a) * (waysZ w ((a' : Int) - b) * waysZ w ((c' : Int) - c) - waysZ w ((c' : Int) - b) * waysZ w ((a' : Int) - c)) + waysZ w ((c' : Int) - a) * (waysZ w ((a' : Int) - b) * waysZ w ((b' : Int) - c) - waysZ w ((b' : Int) - b) * waysZ w ((a' : Int) - c)) = _
  rw [(way_ok hw (show a < 7 by omega) (show a' < 7 by omega)).1, (way_ok hw (show b < 7 by omega) (show b' < 7 by omega)).1, (way_ok hw hc hc').1, (way_ok hw (show b < 7 by omega) hc').1, (way_ok hw hc (show b' < 7 by omega)).1,
    (way_ok hw (show a < 7 by omega) (show b' < 7 by omega)).1, (way_ok hw (show b < 7 by omega) (show a' < 7 by omega)).1, (way_ok hw hc (show a' < 7 by omega)).1, (way_ok hw (show a < 7 by omega) hc').1]
  rfl
theorem apart_bd (width : Int) (f t : List Int) : 0 ≤ apartV width f t ∧ apartV width f t ≤ 100000000 := by
  unfold apartV
  by_cases h : pathErr width f t = 0
  · rw [if_pos h]
    obtain ⟨w, rfl, hw, ⟨a, a', rfl, rfl, h1, h2⟩ | ⟨a, b, a', b', rfl, rfl, h1, h2, h3, h4⟩ | ⟨a, b, c, a', b', c', rfl, rfl, h1, h2, h3, h4, h5, h6⟩⟩ := path_cases h
    · have := apart_one hw h1 h2
      have h3 := way_ok hw h1 h2
      simp only [List.length_cons, List.length_nil, Int.toNat_natCast, Nat.zero_add, Nat.reduceAdd] at this ⊢
      omega
    · have := apart_two hw h2 h1 h4 h3
      have h5 := two_ok hw h2 h1 h4 h3
      simp only [List.length_cons, List.length_nil, Int.toNat_natCast, Nat.zero_add, Nat.reduceAdd] at this ⊢
      omega
    · have := apart_three hw h3 h2 h1 h6 h5 h4
      have h7 := three_ok hw h3 h2 h1 h6 h5 h4
      simp only [List.length_cons, List.length_nil, Int.toNat_natCast, Nat.zero_add, Nat.reduceAdd] at this ⊢
      omega
  · rw [if_neg h]; omega
end Go.Proofs.Ythbfeecbaanegaa
