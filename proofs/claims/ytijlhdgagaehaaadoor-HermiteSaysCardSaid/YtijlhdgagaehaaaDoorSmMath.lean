/- Plain law: the greatest common divisors of all minors of a size. No program in sight. -/
import Derived.Test.YtijlhdgagaehaaaDoorAlg
import Derived.Test.YtijlhdgagaehaaaDoorHerMath
namespace Go.Proofs.YtijlhdgagaehaaaDoor
open Go.RowKit
set_option linter.unusedVariables false
set_option linter.unusedSimpArgs false

/-- the numbers below n whose bit is set -/
def bitsTo (s : Nat) : Nat → List Nat
  | 0 => []
  | i + 1 => if s / 2 ^ i % 2 = 1 then bitsTo s i ++ [i] else bitsTo s i
/-- the lists of so many numbers, of the sets below t -/
def chTo (n many : Nat) : Nat → List (List Nat)
  | 0 => []
  | t + 1 => if (bitsTo t n).length = many then chTo n many t ++ [bitsTo t n] else chTo n many t
def chL (n many : Nat) : List (List Nat) := chTo n many (2 ^ n)
def partL (M : Nat → Nat → Int) (r c : List Nat) : List (List Int) := r.map fun i => c.map fun j => M i j
def gcdI (a b : Int) : Int := (Int.gcd a b : Int)
def colsV (M : Nat → Nat → Int) (k : Nat) (r : List Nat) (acc : Int) (cs : List (List Nat)) : Int := cs.foldl (fun a c => gcdI a (detN k (partL M r c))) acc
def rowsV (n k : Nat) (M : Nat → Nat → Int) (acc : Int) (rs : List (List Nat)) : Int := rs.foldl (fun a r => colsV M k r a (chL n k)) acc
def divV (n k : Nat) (M : Nat → Nat → Int) : Int := rowsV n k M 0 (chL n k)
def lastV (n : Nat) (M : Nat → Nat → Int) : Nat → Int
  | 0 => 1
  | k + 1 => divV n (k + 1) M
/-- the first k invariant factors -/
def partsTo (n : Nat) (M : Nat → Nat → Int) : Nat → List Int
  | 0 => []
  | k + 1 => partsTo n M k ++ [(divV n (k + 1) M).tdiv (lastV n M k)]

theorem colsV_snoc (M : Nat → Nat → Int) (k : Nat) (r : List Nat) (acc : Int) (cs : List (List Nat)) (c : List Nat) : colsV M k r acc (cs ++ [c]) = gcdI (colsV M k r acc cs) (detN k (partL M r c)) := by simp [colsV]
theorem rowsV_snoc (n k : Nat) (M : Nat → Nat → Int) (acc : Int) (rs : List (List Nat)) (r : List Nat) : rowsV n k M acc (rs ++ [r]) = colsV M k r (rowsV n k M acc rs) (chL n k) := by simp [rowsV]
theorem dvd_gcdI {d a b : Int} : d ∣ gcdI a b ↔ d ∣ a ∧ d ∣ b := by
  unfold gcdI
  exact ⟨fun h => ⟨Int.dvd_trans h (Int.gcd_dvd_left ..), Int.dvd_trans h (Int.gcd_dvd_right ..)⟩, fun ⟨h, k⟩ => Int.dvd_coe_gcd h k⟩
theorem gcdI_nonneg (a b : Int) : 0 ≤ gcdI a b := by unfold gcdI; omega
theorem gcdI_mul {q t a b : Int} (h : q ∣ t * a) (k : q ∣ t * b) : q ∣ t * gcdI a b := by
  have := Int.dvd_coe_gcd h k
  rw [Int.gcd_mul_left] at this
  unfold gcdI
  have e : ((t.natAbs * Int.gcd a b : Nat) : Int) = t * (Int.gcd a b : Int) ∨ ((t.natAbs * Int.gcd a b : Nat) : Int) = -(t * (Int.gcd a b : Int)) := by
    rw [Int.natCast_mul]
    rcases Int.natAbs_eq t with h | h
    · left
      have : (t.natAbs : Int) = t := by omega
      rw [this]
    · right
      have : (t.natAbs : Int) = -t := by omega
      rw [this, Int.neg_mul]
  rcases e with e | e
  · rw [e] at this; exact this
  · rw [e] at this; exact (Int.dvd_neg).1 this
theorem dvd_cols {d : Int} (M : Nat → Nat → Int) (k : Nat) (r : List Nat) (cs : List (List Nat)) : ∀ acc, d ∣ colsV M k r acc cs ↔ d ∣ acc ∧ ∀ c ∈ cs, d ∣ detN k (partL M r c) := by
  induction cs with
  | nil => intro acc; simp [colsV]
  | cons c cs ih =>
    intro acc
    have : colsV M k r acc (c :: cs) = colsV M k r (gcdI acc (detN k (partL M r c))) cs := rfl
    rw [this, ih, dvd_gcdI]
    simp [and_assoc]
theorem dvd_rows {d : Int} (n k : Nat) (M : Nat → Nat → Int) (rs : List (List Nat)) : ∀ acc, d ∣ rowsV n k M acc rs ↔ d ∣ acc ∧ ∀ r ∈ rs, ∀ c ∈ chL n k, d ∣ detN k (partL M r c) := by
  induction rs with
  | nil => intro acc; simp [rowsV]
  | cons r rs ih =>
    intro acc
    have : rowsV n k M acc (r :: rs) = rowsV n k M (colsV M k r acc (chL n k)) rs := rfl
    rw [this, ih, dvd_cols]
    simp [and_assoc]
theorem dvd_div {d : Int} (n k : Nat) (M : Nat → Nat → Int) : d ∣ divV n k M ↔ ∀ r ∈ chL n k, ∀ c ∈ chL n k, d ∣ detN k (partL M r c) := by
  unfold divV
  rw [dvd_rows]
  simp
theorem colsV_nonneg (M : Nat → Nat → Int) (k : Nat) (r : List Nat) (cs : List (List Nat)) : ∀ acc, 0 ≤ acc → 0 ≤ colsV M k r acc cs := by
  induction cs with
  | nil => intro acc h; exact h
  | cons c cs ih => intro acc h; exact ih _ (gcdI_nonneg _ _)
theorem rowsV_nonneg (n k : Nat) (M : Nat → Nat → Int) (rs : List (List Nat)) : ∀ acc, 0 ≤ acc → 0 ≤ rowsV n k M acc rs := by
  induction rs with
  | nil => intro acc h; exact h
  | cons c cs ih => intro acc h; exact ih _ (colsV_nonneg _ _ _ _ _ h)
theorem div_nonneg (n k : Nat) (M : Nat → Nat → Int) : 0 ≤ divV n k M := rowsV_nonneg _ _ _ _ _ (Int.le_refl _)
theorem cols_mul {q t : Int} (M : Nat → Nat → Int) (k : Nat) (r : List Nat) (cs : List (List Nat)) (h : ∀ c ∈ cs, q ∣ t * detN k (partL M r c)) : ∀ acc, q ∣ t * acc → q ∣ t * colsV M k r acc cs := by
  induction cs with
  | nil => intro acc h0; exact h0
  | cons c cs ih => intro acc h0; exact ih (fun x hx => h x (List.mem_cons_of_mem _ hx)) _ (gcdI_mul h0 (h c (by simp)))
theorem rows_mul {q t : Int} (n k : Nat) (M : Nat → Nat → Int) (rs : List (List Nat)) (h : ∀ r ∈ rs, ∀ c ∈ chL n k, q ∣ t * detN k (partL M r c)) : ∀ acc, q ∣ t * acc → q ∣ t * rowsV n k M acc rs := by
  induction rs with
  | nil => intro acc h0; exact h0
  | cons c cs ih => intro acc h0; exact ih (fun x hx => h x (List.mem_cons_of_mem _ hx)) _ (cols_mul _ _ _ _ (h c (by simp)) _ h0)
theorem div_mul {q t : Int} (n k : Nat) (M : Nat → Nat → Int) (h : ∀ r ∈ chL n k, ∀ c ∈ chL n k, q ∣ t * detN k (partL M r c)) : q ∣ t * divV n k M := rows_mul n k M _ h 0 (by simp)

/-- a minor of two rows -/
def m2 (M : Nat → Nat → Int) (a b c e : Nat) : Int := M a c * M b e - M a e * M b c
theorem det_1 (M : Nat → Nat → Int) (a c : Nat) : detN 1 (partL M [a] [c]) = M a c := by
  rw [detN_G]; simp [G, sumTo, pw, partL, fn]
theorem det_2 (M : Nat → Nat → Int) (a b c e : Nat) : detN 2 (partL M [a, b] [c, e]) = m2 M a b c e := by
  rw [detN_G]; simp [G, sumTo, pw, partL, fn, minor, sk, m2]
  grind
theorem G1 (M : Nat → Nat → Int) : G (-1) 1 M = M 0 0 := by simp [G, sumTo, pw]
theorem G2 (M : Nat → Nat → Int) : G (-1) 2 M = m2 M 0 1 0 1 := by
  simp [G, sumTo, pw, minor, sk, m2]
  grind
theorem G3 (M : Nat → Nat → Int) : G (-1) 3 M = M 0 0 * m2 M 1 2 1 2 - M 0 1 * m2 M 1 2 0 2 + M 0 2 * m2 M 1 2 0 1 := by
  simp [G, sumTo, pw, minor, sk, m2]
  grind
theorem det_3 (M : Nat → Nat → Int) : detN 3 (partL M [0, 1, 2] [0, 1, 2]) = G (-1) 3 M := by
  rw [detN_G]
  refine G_congr (-1) 3 fun i j hi hj => ?_
  match i, j, hi, hj with
  | 0, 0, _, _ => rfl
  | 0, 1, _, _ => rfl
  | 0, 2, _, _ => rfl
  | 1, 0, _, _ => rfl
  | 1, 1, _, _ => rfl
  | 1, 2, _, _ => rfl
  | 2, 0, _, _ => rfl
  | 2, 1, _, _ => rfl
  | 2, 2, _, _ => rfl

theorem ch11 : chL 1 1 = [[0]] := by decide
theorem ch21 : chL 2 1 = [[0], [1]] := by decide
theorem ch22 : chL 2 2 = [[0, 1]] := by decide
theorem ch31 : chL 3 1 = [[0], [1], [2]] := by decide
theorem ch32 : chL 3 2 = [[0, 1], [0, 2], [1, 2]] := by decide
theorem ch33 : chL 3 3 = [[0, 1, 2]] := by decide

/-- the numbers themselves -/
theorem dvd_one {d : Int} {n : Nat} (h0 : 0 < n) (hn : n ≤ 3) (M : Nat → Nat → Int) : d ∣ divV n 1 M ↔ ∀ i j, i < n → j < n → d ∣ M i j := by
  rw [dvd_div]
  have key : ∀ i, i < n → [i] ∈ chL n 1 := by
    intro i hi
    have : n = 1 ∨ n = 2 ∨ n = 3 := by omega
    rcases this with rfl | rfl | rfl
    · rw [ch11]; have : i = 0 := by omega
      subst this; simp
    · rw [ch21]; have : i = 0 ∨ i = 1 := by omega
      rcases this with rfl | rfl <;> simp
    · rw [ch31]; have : i = 0 ∨ i = 1 ∨ i = 2 := by omega
      rcases this with rfl | rfl | rfl <;> simp
  have key2 : ∀ r, r ∈ chL n 1 → ∃ i, i < n ∧ r = [i] := by
    intro r hr
    have : n = 1 ∨ n = 2 ∨ n = 3 := by omega
    rcases this with rfl | rfl | rfl
    · rw [ch11] at hr; simp at hr; exact ⟨0, by omega, hr⟩
    · rw [ch21] at hr; simp at hr; rcases hr with h | h
      · exact ⟨0, by omega, h⟩
      · exact ⟨1, by omega, h⟩
    · rw [ch31] at hr; simp at hr; rcases hr with h | h | h
      · exact ⟨0, by omega, h⟩
      · exact ⟨1, by omega, h⟩
      · exact ⟨2, by omega, h⟩
  constructor
  · intro h i j hi hj
    have := h [i] (key i hi) [j] (key j hj)
    rwa [det_1] at this
  · intro h r hr c hc
    obtain ⟨i, hi, rfl⟩ := key2 r hr
    obtain ⟨j, hj, rfl⟩ := key2 c hc
    rw [det_1]
    exact h i j hi hj
theorem m2_rows (M : Nat → Nat → Int) (a b c e : Nat) : m2 M b a c e = -m2 M a b c e := by unfold m2; grind
theorem m2_cols (M : Nat → Nat → Int) (a b c e : Nat) : m2 M a b e c = -m2 M a b c e := by unfold m2; grind
theorem m2_same (M : Nat → Nat → Int) (a c e : Nat) : m2 M a a c e = 0 := by unfold m2; grind
theorem m2_same' (M : Nat → Nat → Int) (a b c : Nat) : m2 M a b c c = 0 := by unfold m2; grind
/-- the minors of two rows of three -/
theorem dvd_two {d : Int} (M : Nat → Nat → Int) : d ∣ divV 3 2 M ↔ ∀ a b c e, a < 3 → b < 3 → c < 3 → e < 3 → d ∣ m2 M a b c e := by
  rw [dvd_div, ch32]
  constructor
  · intro h
    have h1 : ∀ a b, a < b → b < 3 → ∀ c e, c < e → e < 3 → d ∣ m2 M a b c e := by
      intro a b hab hb c e hce he
      rw [← det_2]
      have key : ∀ a b, a < b → b < 3 → [a, b] ∈ [[0, 1], [0, 2], [1, 2]] := by
        intro a b hab hb
        have : (a = 0 ∧ b = 1) ∨ (a = 0 ∧ b = 2) ∨ (a = 1 ∧ b = 2) := by omega
        rcases this with ⟨rfl, rfl⟩ | ⟨rfl, rfl⟩ | ⟨rfl, rfl⟩ <;> simp
      exact h _ (key a b hab hb) _ (key c e hce he)
    have h2 : ∀ a b, a < b → b < 3 → ∀ c e, c < 3 → e < 3 → d ∣ m2 M a b c e := by
      intro a b hab hb c e hc he
      rcases Nat.lt_trichotomy c e with h | h | h
      · exact h1 a b hab hb c e h he
      · subst h; rw [m2_same']; exact Int.dvd_zero _
      · rw [m2_cols]; exact Int.dvd_neg.2 (h1 a b hab hb e c h hc)
    intro a b c e ha hb hc he
    rcases Nat.lt_trichotomy a b with h | h | h
    · exact h2 a b h hb c e hc he
    · subst h; rw [m2_same]; exact Int.dvd_zero _
    · rw [m2_rows]; exact Int.dvd_neg.2 (h2 b a h ha c e hc he)
  · intro h r hr c hcm
    have key : ∀ r, r ∈ [[0, 1], [0, 2], [1, 2]] → ∃ a b, a < 3 ∧ b < 3 ∧ r = [a, b] := by
      intro r hr
      simp at hr
      rcases hr with h | h | h
      · exact ⟨0, 1, by omega, by omega, h⟩
      · exact ⟨0, 2, by omega, by omega, h⟩
      · exact ⟨1, 2, by omega, by omega, h⟩
    obtain ⟨a, b, ha, hb, rfl⟩ := key r hr
    obtain ⟨c, e, hc, he, rfl⟩ := key c hcm
    rw [det_2]
    exact h a b c e ha hb hc he
/-- the determinant -/
theorem dvd_all {d : Int} {n : Nat} (h0 : 0 < n) (hn : n ≤ 3) (M : Nat → Nat → Int) : d ∣ divV n n M ↔ d ∣ G (-1) n M := by
  have : n = 1 ∨ n = 2 ∨ n = 3 := by omega
  rcases this with rfl | rfl | rfl
  · rw [dvd_one (by omega) (by omega), G1]
    constructor
    · intro h; exact h 0 0 (by omega) (by omega)
    · intro h i j hi hj
      have : i = 0 := by omega
      have : j = 0 := by omega
      subst_vars; exact h
  · rw [dvd_div, ch22, G2, ← det_2]; simp
  · rw [dvd_div, ch33, ← det_3]; simp
theorem dvd_eq {a b : Int} (ha : 0 ≤ a) (hb : 0 ≤ b) (h : ∀ d : Int, d ∣ a ↔ d ∣ b) : a = b := Int.dvd_antisymm ha hb ((h a).1 (Int.dvd_refl _)) ((h b).2 (Int.dvd_refl _))
theorem div_all {n : Nat} (h0 : 0 < n) (hn : n ≤ 3) (M : Nat → Nat → Int) : divV n n M = ((G (-1) n M).natAbs : Int) :=
  dvd_eq (div_nonneg _ _ _) (by omega) fun d => by rw [dvd_all h0 hn, Int.dvd_natAbs]

/-- equal minors, equal divisors -/
theorem div_congr {n k : Nat} (h0 : 0 < k) (hk : k ≤ n) (hn : n ≤ 3) {M N : Nat → Nat → Int} (h : ∀ i j, i < n → j < n → M i j = N i j) : divV n k M = divV n k N := by
  refine dvd_eq (div_nonneg _ _ _) (div_nonneg _ _ _) fun d => ?_
  have : k = 1 ∨ k = n ∨ (k = 2 ∧ n = 3) := by omega
  rcases this with rfl | rfl | ⟨rfl, rfl⟩
  · rw [dvd_one (by omega) hn, dvd_one (by omega) hn]
    exact ⟨fun g i j hi hj => by rw [← h i j hi hj]; exact g i j hi hj, fun g i j hi hj => by rw [h i j hi hj]; exact g i j hi hj⟩
  · rw [dvd_all h0 hn, dvd_all h0 hn, G_congr (-1) k h]
  · rw [dvd_two, dvd_two]
    have key : ∀ a b c e, a < 3 → b < 3 → c < 3 → e < 3 → m2 M a b c e = m2 N a b c e := by
      intro a b c e ha hb hc he
      unfold m2
      rw [h a c ha hc, h b e hb he, h a e ha he, h b c hb hc]
    exact ⟨fun g a b c e ha hb hc he => by rw [← key a b c e ha hb hc he]; exact g a b c e ha hb hc he, fun g a b c e ha hb hc he => by rw [key a b c e ha hb hc he]; exact g a b c e ha hb hc he⟩
/-- turned rows -/
theorem div_flip {n k : Nat} (h0 : 0 < k) (hk : k ≤ n) (hn : n ≤ 3) (M : Nat → Nat → Int) : divV n k (fun i j => M j i) = divV n k M := by
  refine dvd_eq (div_nonneg _ _ _) (div_nonneg _ _ _) fun d => ?_
  have : k = 1 ∨ k = n ∨ (k = 2 ∧ n = 3) := by omega
  rcases this with rfl | rfl | ⟨rfl, rfl⟩
  · rw [dvd_one (by omega) hn, dvd_one (by omega) hn]
    exact ⟨fun g i j hi hj => g j i hj hi, fun g i j hi hj => g j i hj hi⟩
  · rw [dvd_all h0 hn, dvd_all h0 hn, G_flip]
  · rw [dvd_two, dvd_two]
    have key : ∀ a b c e, m2 (fun i j => M j i) a b c e = m2 M c e a b := by
      intro a b c e; unfold m2; grind
    exact ⟨fun g a b c e ha hb hc he => by have := g c e a b hc he ha hb; rwa [key] at this, fun g a b c e ha hb hc he => by rw [key]; exact g c e a b hc he ha hb⟩
/-- one row, so many times, added to another one -/
theorem dvd_add {d : Int} {n k : Nat} (h0 : 0 < k) (hk : k ≤ n) (hn : n ≤ 3) {i j : Nat} (hi : i < n) (hj : j < n) (hij : i ≠ j) (M : Nat → Nat → Int) (t : Int) (h : d ∣ divV n k M) : d ∣ divV n k (setRow M i fun b => M i b + t * M j b) := by
  have : k = 1 ∨ k = n ∨ (k = 2 ∧ n = 3) := by omega
  rcases this with rfl | rfl | ⟨rfl, rfl⟩
  · rw [dvd_one (by omega) hn] at h ⊢
    intro a b ha hb
    unfold setRow
    by_cases hai : a = i
    · rw [if_pos hai]; exact Int.dvd_add (h i b hi hb) (Int.dvd_mul_of_dvd_right (h j b hj hb))
    · rw [if_neg hai]; exact h a b ha hb
  · rw [dvd_all h0 hn] at h ⊢
    rw [det_add k i j M t hi hj hij]; exact h
  · rw [dvd_two] at h ⊢
    intro a b c e ha hb hc he
    have e1 : ∀ x, setRow M i (fun b => M i b + t * M j b) i x = M i x + t * M j x := fun x => by simp [setRow]
    have e2 : ∀ a x, a ≠ i → setRow M i (fun b => M i b + t * M j b) a x = M a x := fun a x hne => by simp [setRow, hne]
    by_cases hai : a = i
    · subst hai
      by_cases hbi : b = a
      · subst hbi; rw [m2_same]; exact Int.dvd_zero _
      · have : m2 (setRow M a fun b => M a b + t * M j b) a b c e = m2 M a b c e + t * m2 M j b c e := by
          unfold m2; rw [e1, e1, e2 _ _ hbi, e2 _ _ hbi]; grind
        rw [this]
        exact Int.dvd_add (h a b c e ha hb hc he) (Int.dvd_mul_of_dvd_right (h j b c e hj hb hc he))
    · by_cases hbi : b = i
      · subst hbi
        have : m2 (setRow M b fun x => M b x + t * M j x) a b c e = m2 M a b c e + t * m2 M a j c e := by
          unfold m2; rw [e1, e1, e2 _ _ hai, e2 _ _ hai]; grind
        rw [this]
        exact Int.dvd_add (h a b c e ha hb hc he) (Int.dvd_mul_of_dvd_right (h a j c e ha hj hc he))
      · have : m2 (setRow M i fun x => M i x + t * M j x) a b c e = m2 M a b c e := by
          unfold m2; rw [e2 _ _ hai, e2 _ _ hai, e2 _ _ hbi, e2 _ _ hbi]
        rw [this]; exact h a b c e ha hb hc he
theorem div_add {n k : Nat} (h0 : 0 < k) (hk : k ≤ n) (hn : n ≤ 3) {i j : Nat} (hi : i < n) (hj : j < n) (hij : i ≠ j) (M : Nat → Nat → Int) (t : Int) : divV n k (setRow M i fun b => M i b + t * M j b) = divV n k M := by
  refine Int.dvd_antisymm (div_nonneg _ _ _) (div_nonneg _ _ _) ?_ (dvd_add h0 hk hn hi hj hij M t (Int.dvd_refl _))
  have h := dvd_add h0 hk hn hi hj hij (setRow M i fun b => M i b + t * M j b) (-t) (Int.dvd_refl _)
  have e : divV n k (setRow (setRow M i fun b => M i b + t * M j b) i fun b => setRow M i (fun b => M i b + t * M j b) i b + -t * setRow M i (fun b => M i b + t * M j b) j b) = divV n k M := by
    refine div_congr h0 hk hn fun a b ha hb => ?_
    have hji : ¬ j = i := fun h => hij h.symm
    unfold setRow
    by_cases hai : a = i
    · simp [hji, hai]; grind
    · simp [hai]
  rwa [e] at h

/-- each divides the determinant -/
theorem div_det {n k : Nat} (h0 : 0 < k) (hk : k ≤ n) (hn : n ≤ 3) (M : Nat → Nat → Int) : divV n k M ∣ G (-1) n M := by
  obtain ⟨D, hD⟩ : ∃ D, D = divV n k M := ⟨_, rfl⟩
  have h : D ∣ divV n k M := by rw [hD]; exact Int.dvd_refl _
  rw [← hD]
  clear hD
  have : k = n ∨ (k = 1 ∧ n = 2) ∨ (k = 1 ∧ n = 3) ∨ (k = 2 ∧ n = 3) := by omega
  rcases this with rfl | ⟨rfl, rfl⟩ | ⟨rfl, rfl⟩ | ⟨rfl, rfl⟩
  · exact (dvd_all h0 hn M).1 h
  · rw [dvd_one (by omega) (by omega)] at h
    rw [G2]; unfold m2
    exact Int.dvd_sub (Int.dvd_mul_of_dvd_left (h 0 0 (by omega) (by omega))) (Int.dvd_mul_of_dvd_left (h 0 1 (by omega) (by omega)))
  · rw [dvd_one (by omega) (by omega)] at h
    rw [G3]
    exact Int.dvd_add (Int.dvd_sub (Int.dvd_mul_of_dvd_left (h 0 0 (by omega) (by omega))) (Int.dvd_mul_of_dvd_left (h 0 1 (by omega) (by omega)))) (Int.dvd_mul_of_dvd_left (h 0 2 (by omega) (by omega)))
  · rw [dvd_two] at h
    rw [G3]
    exact Int.dvd_add (Int.dvd_sub (Int.dvd_mul_of_dvd_right (h 1 2 1 2 (by omega) (by omega) (by omega) (by omega))) (Int.dvd_mul_of_dvd_right (h 1 2 0 2 (by omega) (by omega) (by omega) (by omega)))) (Int.dvd_mul_of_dvd_right (h 1 2 0 1 (by omega) (by omega) (by omega) (by omega)))
/-- the square of the second one divides the first one times the determinant -/
theorem syl (M : Nat → Nat → Int) (i j : Nat) (hi : i < 3) (hj : j < 3) : ∃ a b c e : Int, G (-1) 3 M * M i j = a * b - c * e ∧ (∀ d : Int, d ∣ divV 3 2 M → d ∣ a ∧ d ∣ b ∧ d ∣ c ∧ d ∣ e) := by
  obtain ⟨p, q, hp, hq, hpq⟩ : ∃ p q, p < 3 ∧ q < 3 ∧ ((i = 0 ∧ p = 1 ∧ q = 2) ∨ (i = 1 ∧ p = 0 ∧ q = 2) ∨ (i = 2 ∧ p = 0 ∧ q = 1)) := by
    have : i = 0 ∨ i = 1 ∨ i = 2 := by omega
    rcases this with rfl | rfl | rfl
    · exact ⟨1, 2, by omega, by omega, by omega⟩
    · exact ⟨0, 2, by omega, by omega, by omega⟩
    · exact ⟨0, 1, by omega, by omega, by omega⟩
  obtain ⟨r, s, hr, hs, hrs⟩ : ∃ r s, r < 3 ∧ s < 3 ∧ ((j = 0 ∧ r = 1 ∧ s = 2) ∨ (j = 1 ∧ r = 0 ∧ s = 2) ∨ (j = 2 ∧ r = 0 ∧ s = 1)) := by
    have : j = 0 ∨ j = 1 ∨ j = 2 := by omega
    rcases this with rfl | rfl | rfl
    · exact ⟨1, 2, by omega, by omega, by omega⟩
    · exact ⟨0, 2, by omega, by omega, by omega⟩
    · exact ⟨0, 1, by omega, by omega, by omega⟩
  have key : G (-1) 3 M * M i j = m2 M i p j r * m2 M i q j s - m2 M i p j s * m2 M i q j r ∨ G (-1) 3 M * M i j = m2 M i p j s * m2 M i q j r - m2 M i p j r * m2 M i q j s := by
    rw [G3]
    unfold m2
    rcases hpq with ⟨rfl, rfl, rfl⟩ | ⟨rfl, rfl, rfl⟩ | ⟨rfl, rfl, rfl⟩ <;> rcases hrs with ⟨rfl, rfl, rfl⟩ | ⟨rfl, rfl, rfl⟩ | ⟨rfl, rfl, rfl⟩
    · left; grind
    · right; grind
    · left; grind
    · right; grind
    · left; grind
    · right; grind
    · left; grind
    · right; grind
    · left; grind
  have hd : ∀ d : Int, d ∣ divV 3 2 M → d ∣ m2 M i p j r ∧ d ∣ m2 M i q j s ∧ d ∣ m2 M i p j s ∧ d ∣ m2 M i q j r := fun d h => by
    rw [dvd_two] at h
    exact ⟨h _ _ _ _ hi hp hj hr, h _ _ _ _ hi hq hj hs, h _ _ _ _ hi hp hj hs, h _ _ _ _ hi hq hj hr⟩
  rcases key with e | e
  · exact ⟨_, _, _, _, e, fun d h => by obtain ⟨h1, h2, h3, h4⟩ := hd d h; exact ⟨h1, h2, h3, h4⟩⟩
  · exact ⟨_, _, _, _, e, fun d h => by obtain ⟨h1, h2, h3, h4⟩ := hd d h; exact ⟨h3, h4, h1, h2⟩⟩
/-- the chain: last * next is divided by the square of this one -/
theorem div_chain {n k : Nat} (hk : k + 1 < n) (hn : n ≤ 3) (M : Nat → Nat → Int) : divV n (k + 1) M * divV n (k + 1) M ∣ lastV n M k * divV n (k + 2) M := by
  have : (n = 2 ∧ k = 0) ∨ (n = 3 ∧ k = 0) ∨ (n = 3 ∧ k = 1) := by omega
  rcases this with ⟨rfl, rfl⟩ | ⟨rfl, rfl⟩ | ⟨rfl, rfl⟩
  · show divV 2 1 M * divV 2 1 M ∣ 1 * divV 2 2 M
    rw [Int.one_mul, dvd_all (by omega) (by omega), G2]
    have h := (dvd_one (n := 2) (by omega) (by omega) M).1 (Int.dvd_refl (divV 2 1 M))
    unfold m2
    exact Int.dvd_sub (Int.mul_dvd_mul (h 0 0 (by omega) (by omega)) (h 1 1 (by omega) (by omega))) (Int.mul_dvd_mul (h 0 1 (by omega) (by omega)) (h 1 0 (by omega) (by omega)))
  · show divV 3 1 M * divV 3 1 M ∣ 1 * divV 3 2 M
    rw [Int.one_mul, dvd_two]
    have h := (dvd_one (n := 3) (by omega) (by omega) M).1 (Int.dvd_refl (divV 3 1 M))
    intro a b c e ha hb hc he
    unfold m2
    exact Int.dvd_sub (Int.mul_dvd_mul (h _ _ ha hc) (h _ _ hb he)) (Int.mul_dvd_mul (h _ _ ha he) (h _ _ hb hc))
  · show divV 3 2 M * divV 3 2 M ∣ divV 3 1 M * divV 3 3 M
    rw [Int.mul_comm (divV 3 1 M)]
    have h : divV 3 2 M * divV 3 2 M ∣ G (-1) 3 M * divV 3 1 M := by
      refine div_mul 3 1 M fun r hr c hc => ?_
      have key2 : ∀ r, r ∈ chL 3 1 → ∃ i, i < 3 ∧ r = [i] := by
        intro r hr
        rw [ch31] at hr; simp at hr; rcases hr with h | h | h
        · exact ⟨0, by omega, h⟩
        · exact ⟨1, by omega, h⟩
        · exact ⟨2, by omega, h⟩
      obtain ⟨i, hi, rfl⟩ := key2 r hr
      obtain ⟨j, hj, rfl⟩ := key2 c hc
      rw [det_1]
      obtain ⟨a, b, c, e, h1, h2⟩ := syl M i j hi hj
      obtain ⟨ha, hb, hc, he⟩ := h2 _ (Int.dvd_refl _)
      rw [h1]
      exact Int.dvd_sub (Int.mul_dvd_mul ha hb) (Int.mul_dvd_mul hc he)
    rw [div_all (by omega) (by omega)]
    rcases Int.natAbs_eq (G (-1) 3 M) with e | e
    · rw [← e]; exact h
    · have : ((G (-1) 3 M).natAbs : Int) = -G (-1) 3 M := by omega
      rw [this, Int.neg_mul]; exact Int.dvd_neg.2 h
end Go.Proofs.YtijlhdgagaehaaaDoor
