/- Plain law: Hall's theorem, and Frobenius and Konig's: a permanent of noughts and ones is 0 just if some rows have ones in fewer columns than they are. No program in sight. -/
import Derived.Test.YtacdhgenpcgddaaHPermMath
namespace Go.Proofs.Ytacdhgenpcgddaa
open Go.RowKit
set_option linter.unusedVariables false
set_option linter.unusedSimpArgs false

/-- how many of the numbers below n -/
def cnt : Nat → (Nat → Bool) → Nat
  | 0, _ => 0
  | n + 1, S => cnt n S + (if S n = true then 1 else 0)
theorem cnt_congr {n : Nat} {S T : Nat → Bool} (h : ∀ i, i < n → S i = T i) : cnt n S = cnt n T := by
  induction n with
  | zero => rfl
  | succ n ih => rw [cnt, cnt, ih (fun i hi => h i (by omega)), h n (by omega)]
theorem cnt_mono {n : Nat} {S T : Nat → Bool} (h : ∀ i, i < n → S i = true → T i = true) : cnt n S ≤ cnt n T := by
  induction n with
  | zero => exact Nat.le_refl _
  | succ n ih =>
    have := ih (fun i hi => h i (by omega))
    rw [cnt, cnt]
    by_cases h1 : S n = true
    · rw [if_pos h1, if_pos (h n (by omega) h1)]; omega
    · rw [if_neg h1]; omega
theorem cnt_split (n : Nat) (S T : Nat → Bool) : cnt n S = cnt n (fun i => S i && T i) + cnt n (fun i => S i && !T i) := by
  induction n with
  | zero => rfl
  | succ n ih =>
    rw [cnt, cnt, cnt, ih]
    cases S n <;> cases T n <;> simp <;> omega
theorem cnt_none {n : Nat} {S : Nat → Bool} (h : ∀ i, i < n → S i = false) : cnt n S = 0 := by
  induction n with
  | zero => rfl
  | succ n ih => rw [cnt, ih (fun i hi => h i (by omega)), h n (by omega)]; rfl
theorem cnt_ex {n : Nat} {S : Nat → Bool} (h : 0 < cnt n S) : ∃ i, i < n ∧ S i = true := by
  induction n with
  | zero => simp [cnt] at h
  | succ n ih =>
    rw [cnt] at h
    by_cases h1 : S n = true
    · exact ⟨n, by omega, h1⟩
    · rw [if_neg h1] at h
      obtain ⟨i, hi, h2⟩ := ih (by omega)
      exact ⟨i, by omega, h2⟩
theorem cnt_pos {n i : Nat} {S : Nat → Bool} (hi : i < n) (h : S i = true) : 0 < cnt n S := by
  rcases Nat.eq_zero_or_pos (cnt n S) with h0 | h0
  · exfalso
    induction n with
    | zero => omega
    | succ n ih =>
      rw [cnt] at h0
      by_cases h1 : i = n
      · subst h1; rw [if_pos h] at h0; omega
      · exact ih (by omega) (by omega)
  · exact h0
theorem cnt_le (n : Nat) (S : Nat → Bool) : cnt n S ≤ n := by
  induction n with
  | zero => exact Nat.le_refl _
  | succ n ih => rw [cnt]; split <;> omega
theorem cnt_one {n i : Nat} (hi : i < n) : cnt n (fun k => decide (k = i)) = 1 := by
  induction n with
  | zero => omega
  | succ n ih =>
    rw [cnt]
    by_cases h : i = n
    · subst h
      rw [cnt_none (fun k hk => by simp; omega)]
      simp
    · rw [ih (by omega)]
      simp; omega
/-- without one that is in it -/
theorem cnt_less {n i : Nat} {S : Nat → Bool} (hi : i < n) (h : S i = true) : cnt n S = cnt n (fun k => S k && !decide (k = i)) + 1 := by
  rw [cnt_split n S (fun k => decide (k = i))]
  have : cnt n (fun k => S k && decide (k = i)) = 1 := by
    rw [← cnt_one hi]
    refine cnt_congr fun k _ => ?_
    by_cases e : k = i
    · subst e; simp [h]
    · simp [e]
  omega

/-- the columns that some of the rows of S have -/
def nb (n : Nat) (adj : Nat → Nat → Bool) (S : Nat → Bool) : Nat → Bool := fun j => (List.range n).any fun i => S i && adj i j
theorem nb_iff {n : Nat} {adj : Nat → Nat → Bool} {S : Nat → Bool} {j : Nat} : nb n adj S j = true ↔ ∃ i, i < n ∧ S i = true ∧ adj i j = true := by
  unfold nb
  rw [List.any_eq_true]
  constructor
  · rintro ⟨i, h1, h2⟩
    rw [Bool.and_eq_true] at h2
    exact ⟨i, List.mem_range.1 h1, h2.1, h2.2⟩
  · rintro ⟨i, h1, h2, h3⟩
    exact ⟨i, List.mem_range.2 h1, by rw [h2, h3]; rfl⟩

/-- a pairing of the rows of A with columns of C -/
def Pair (n m : Nat) (adj : Nat → Nat → Bool) (A C : Nat → Bool) (f : Nat → Nat) : Prop :=
  (∀ i, i < n → A i = true → f i < m ∧ C (f i) = true ∧ adj i (f i) = true) ∧ ∀ i k, i < n → k < n → A i = true → A k = true → f i = f k → i = k
/-- HALL -/
theorem hall (n m : Nat) (adj : Nat → Nat → Bool) (k : Nat) : ∀ (A C : Nat → Bool), cnt n A = k →
    (∀ S : Nat → Bool, (∀ i, i < n → S i = true → A i = true) → cnt n S ≤ cnt m (fun j => C j && nb n adj S j)) → ∃ f, Pair n m adj A C f := by
  induction k using Nat.strongRecOn with
  | _ k ih =>
    intro A C hA hS
    rcases Nat.eq_zero_or_pos k with hk | hk
    · refine ⟨fun _ => 0, fun i hi h => ?_, fun i k hi hk2 h => ?_⟩
      · have := cnt_pos hi h; omega
      · have := cnt_pos hi h; omega
    · by_cases hc : ∃ S : Nat → Bool, (∀ i, i < n → S i = true → A i = true) ∧ 0 < cnt n S ∧ cnt n S < k ∧ cnt m (fun j => C j && nb n adj S j) = cnt n S
      · obtain ⟨S, h1, h2, h3, h4⟩ := hc
        obtain ⟨f, hf1, hf2⟩ := ih (cnt n S) h3 S C rfl (fun T hT => hS T (fun i hi h => h1 i hi (hT i hi h)))
        have hrest : cnt n (fun i => A i && !S i) = k - cnt n S := by
          have := cnt_split n A S
          have e : cnt n (fun i => A i && S i) = cnt n S := cnt_congr fun i hi => by
            cases hs : S i
            · simp
            · simp [h1 i hi hs]
          omega
        obtain ⟨g, hg1, hg2⟩ := ih (k - cnt n S) (by omega) (fun i => A i && !S i) (fun j => C j && !nb n adj S j) hrest (fun T hT => by
          have hT' : ∀ i, i < n → T i = true → A i = true ∧ S i = false := fun i hi h => by
            have := hT i hi h
            simpa using this
          have h5 := hS (fun i => T i || S i) (fun i hi h => by
            rw [Bool.or_eq_true] at h
            rcases h with h | h
            · exact (hT' i hi h).1
            · exact h1 i hi h)
          have h6 : cnt n (fun i => T i || S i) = cnt n T + cnt n S := by
            rw [cnt_split n (fun i => T i || S i) S]
            have e1 : cnt n (fun i => (T i || S i) && S i) = cnt n S := cnt_congr fun i hi => by cases T i <;> cases S i <;> rfl
            have e2 : cnt n (fun i => (T i || S i) && !S i) = cnt n T := cnt_congr fun i hi => by
              cases ht : T i
              · cases S i <;> rfl
              · rw [(hT' i hi ht).2]; rfl
            omega
          have h7 : cnt m (fun j => C j && nb n adj (fun i => T i || S i) j) = cnt m (fun j => C j && nb n adj S j) + cnt m (fun j => (C j && !nb n adj S j) && nb n adj T j) := by
            rw [cnt_split m (fun j => C j && nb n adj (fun i => T i || S i) j) (nb n adj S)]
            have key : ∀ j, nb n adj (fun i => T i || S i) j = (nb n adj T j || nb n adj S j) := fun j => by
              rw [Bool.eq_iff_iff, Bool.or_eq_true, nb_iff, nb_iff, nb_iff]
              constructor
              · rintro ⟨i, a1, a2, a3⟩
                rw [Bool.or_eq_true] at a2
                rcases a2 with a2 | a2
                · exact Or.inl ⟨i, a1, a2, a3⟩
                · exact Or.inr ⟨i, a1, a2, a3⟩
              · rintro (⟨i, a1, a2, a3⟩ | ⟨i, a1, a2, a3⟩)
                · exact ⟨i, a1, by rw [a2]; rfl, a3⟩
                · exact ⟨i, a1, by rw [a2]; simp, a3⟩
            congr 1
            · exact cnt_congr fun j _ => by rw [key]; cases C j <;> cases nb n adj T j <;> cases nb n adj S j <;> rfl
            · exact cnt_congr fun j _ => by rw [key]; cases C j <;> cases nb n adj T j <;> cases nb n adj S j <;> rfl
          omega)
        refine ⟨fun i => if S i = true then f i else g i, fun i hi h => ?_, fun i k' hi hk' h h' he => ?_⟩
        · by_cases hs : S i = true
          · simp only [if_pos hs]; exact hf1 i hi hs
          · simp only [if_neg hs]
            obtain ⟨a1, a2, a3⟩ := hg1 i hi (by simp [h]; simpa using hs)
            rw [Bool.and_eq_true] at a2
            exact ⟨a1, a2.1, a3⟩
        · have far : ∀ i k, i < n → k < n → S i = true → A k = true → ¬ S k = true → f i ≠ g k := by
            intro i k hi hk s1 s2 s3 e
            obtain ⟨a1, a2, a3⟩ := hg1 k hk (by simp [s2]; simpa using s3)
            obtain ⟨b1, b2, b3⟩ := hf1 i hi s1
            rw [Bool.and_eq_true] at a2
            have : nb n adj S (g k) = true := nb_iff.2 ⟨i, hi, s1, by rw [← e]; exact b3⟩
            rw [this] at a2
            simp at a2
          by_cases hs : S i = true <;> by_cases hs' : S k' = true
          · simp only [if_pos hs, if_pos hs'] at he; exact hf2 i k' hi hk' hs hs' he
          · simp only [if_pos hs, if_neg hs'] at he; exact absurd he (far i k' hi hk' hs h' hs')
          · simp only [if_neg hs, if_pos hs'] at he; exact absurd he.symm (far k' i hk' hi hs' h hs)
          · simp only [if_neg hs, if_neg hs'] at he
            exact hg2 i k' hi hk' (by simp [h]; simpa using hs) (by simp [h']; simpa using hs') he
      · obtain ⟨i0, hi0, hA0⟩ := cnt_ex (S := A) (n := n) (by omega)
        have h1 := hS (fun k => decide (k = i0)) (fun i hi h => by simp at h; rw [h]; exact hA0)
        rw [cnt_one hi0] at h1
        obtain ⟨j0, hj0, hb⟩ := cnt_ex (n := m) (S := fun j => C j && nb n adj (fun k => decide (k = i0)) j) (by omega)
        rw [Bool.and_eq_true, nb_iff] at hb
        obtain ⟨hC0, i1, hi1, he1, hadj⟩ := hb
        obtain rfl : i1 = i0 := by simpa using he1
        have hl := cnt_less hi0 hA0
        obtain ⟨g, hg1, hg2⟩ := ih (k - 1) (by omega) (fun i => A i && !decide (i = i1)) (fun j => C j && !decide (j = j0)) (by omega) (fun T hT => by
          have hT' : ∀ i, i < n → T i = true → A i = true ∧ i ≠ i1 := fun i hi h => by
            have := hT i hi h
            simpa using this
          rcases Nat.eq_zero_or_pos (cnt n T) with h0 | h0
          · omega
          · have h5 := hS T (fun i hi h => (hT' i hi h).1)
            have h6 : cnt n T < k := by
              have : cnt n T ≤ cnt n (fun i => A i && !decide (i = i1)) := cnt_mono fun i hi h => hT i hi h
              omega
            have h7 : cnt m (fun j => C j && nb n adj T j) ≠ cnt n T := fun e => hc ⟨T, fun i hi h => (hT' i hi h).1, h0, h6, e⟩
            have h8 := cnt_split m (fun j => C j && nb n adj T j) (fun j => decide (j = j0))
            have h9 : cnt m (fun j => (C j && nb n adj T j) && decide (j = j0)) ≤ 1 := by
              rw [← cnt_one hj0]
              exact cnt_mono fun j _ h => by rw [Bool.and_eq_true] at h; exact h.2
            have h10 : cnt m (fun j => (C j && nb n adj T j) && !decide (j = j0)) = cnt m (fun j => (C j && !decide (j = j0)) && nb n adj T j) :=
              cnt_congr fun j _ => by cases C j <;> cases nb n adj T j <;> simp
            omega)
        refine ⟨fun i => if i = i1 then j0 else g i, fun i hi h => ?_, fun i k' hi hk' h h' he => ?_⟩
        · by_cases e : i = i1
          · subst e; simp only [if_pos]; exact ⟨hj0, hC0, hadj⟩
          · simp only [if_neg e]
            obtain ⟨a1, a2, a3⟩ := hg1 i hi (by simp [h, e])
            rw [Bool.and_eq_true] at a2
            exact ⟨a1, a2.1, a3⟩
        · have far : ∀ i, i < n → A i = true → i ≠ i1 → g i ≠ j0 := fun i hi h e e2 => by
            obtain ⟨a1, a2, a3⟩ := hg1 i hi (by simp [h, e])
            rw [Bool.and_eq_true] at a2
            simp [e2] at a2
          by_cases e : i = i1 <;> by_cases e' : k' = i1
          · rw [e, e']
          · simp only [if_pos e, if_neg e'] at he; exact absurd he.symm (far k' hk' h' e')
          · simp only [if_neg e, if_pos e'] at he; exact absurd he (far i hi h e)
          · simp only [if_neg e, if_neg e'] at he
            exact hg2 i k' hi hk' (by simp [h, e]) (by simp [h', e']) he

/-- a pairing takes no more rows than there are columns -/
theorem pair_cnt (m : Nat) (n : Nat) : ∀ (A C : Nat → Bool) (f : Nat → Nat), (∀ i, i < n → A i = true → f i < m ∧ C (f i) = true) → (∀ i k, i < n → k < n → A i = true → A k = true → f i = f k → i = k) → cnt n A ≤ cnt m C := by
  induction n with
  | zero => intro A C f _ _; exact Nat.zero_le _
  | succ n ih =>
    intro A C f h1 h2
    rw [cnt]
    by_cases h : A n = true
    · rw [if_pos h]
      obtain ⟨a1, a2⟩ := h1 n (by omega) h
      rw [cnt_less a1 a2]
      have := ih A (fun k => C k && !decide (k = f n)) f (fun i hi hA => by
        obtain ⟨b1, b2⟩ := h1 i (by omega) hA
        refine ⟨b1, ?_⟩
        have : f i ≠ f n := fun e => by have := h2 i n (by omega) (by omega) hA h e; omega
        simp [b2, this]) (fun i k hi hk => h2 i k (by omega) (by omega))
      omega
    · rw [if_neg h]
      exact ih A C f (fun i hi => h1 i (by omega)) (fun i k hi hk => h2 i k (by omega) (by omega))

theorem sumTo_nonneg {F : Nat → Int} (h : ∀ j, 0 ≤ F j) (n : Nat) : 0 ≤ sumTo F n := by
  induction n with
  | zero => rw [sumTo]; omega
  | succ n ih => rw [sumTo]; have := h n; omega
theorem sumTo_pos {F : Nat → Int} (h : ∀ j, 0 ≤ F j) (n : Nat) : 0 < sumTo F n ↔ ∃ j, j < n ∧ 0 < F j := by
  induction n with
  | zero => rw [sumTo]; exact ⟨fun h => by omega, fun ⟨j, hj, _⟩ => by omega⟩
  | succ n ih =>
    rw [sumTo]
    have h1 := sumTo_nonneg h n
    have h2 := h n
    constructor
    · intro h3
      by_cases h4 : 0 < F n
      · exact ⟨n, by omega, h4⟩
      · obtain ⟨j, hj, h5⟩ := ih.1 (by omega)
        exact ⟨j, by omega, h5⟩
    · rintro ⟨j, hj, h5⟩
      by_cases e : j = n
      · subst e; omega
      · have := ih.2 ⟨j, by omega, h5⟩; omega
theorem permU_nonneg (n : Nat) {M : Nat → Nat → Int} (hM : ∀ i j, 0 ≤ M i j) : ∀ (k : Nat) (used : List Int), 0 ≤ permU n M k used := by
  intro k
  induction k with
  | zero => intro used; rw [permU]; omega
  | succ k ih =>
    intro used
    rw [permU]
    refine sumTo_nonneg (fun j => ?_) n
    by_cases h : (j : Int) ∈ used
    · rw [if_pos h]; omega
    · rw [if_neg h]; exact Int.mul_nonneg (hM _ _) (ih _)
/-- a sum over all orders is above 0 just if there is an order -/
theorem permU_pos (n : Nat) {M : Nat → Nat → Int} (hM : ∀ i j, 0 ≤ M i j) : ∀ (k : Nat) (used : List Int), k ≤ n → (0 < permU n M k used ↔
    ∃ f : Nat → Nat, (∀ i, n - k ≤ i → i < n → f i < n ∧ 0 < M i (f i) ∧ ¬ (f i : Int) ∈ used) ∧ ∀ i l, n - k ≤ i → i < n → n - k ≤ l → l < n → f i = f l → i = l) := by
  intro k
  induction k with
  | zero => intro used _; rw [permU]; exact ⟨fun _ => ⟨fun _ => 0, fun i h1 h2 => by omega, fun i l h1 h2 => by omega⟩, fun _ => by omega⟩
  | succ k ih =>
    intro used hk
    rw [permU]
    have hnn : ∀ j, 0 ≤ (fun j : Nat => if (j : Int) ∈ used then 0 else M (n - (k + 1)) j * permU n M k (used ++ [(j : Int)])) j := by
      intro j
      by_cases h : (j : Int) ∈ used
      · simp only [if_pos h]; omega
      · simp only [if_neg h]; exact Int.mul_nonneg (hM _ _) (permU_nonneg n hM _ _)
    rw [sumTo_pos hnn]
    constructor
    · rintro ⟨j, hj, h⟩
      by_cases hu : (j : Int) ∈ used
      · rw [if_pos hu] at h; omega
      · rw [if_neg hu] at h
        have p1 : 0 < M (n - (k + 1)) j := by
          rcases Int.lt_or_eq_of_le (hM (n - (k + 1)) j) with h1 | h1
          · exact h1
          · rw [← h1, Int.zero_mul] at h; omega
        have p2 : 0 < permU n M k (used ++ [(j : Int)]) := by
          rcases Int.lt_or_eq_of_le (permU_nonneg n hM k (used ++ [(j : Int)])) with h1 | h1
          · exact h1
          · rw [← h1, Int.mul_zero] at h; omega
        obtain ⟨f, hf1, hf2⟩ := (ih _ (by omega)).1 p2
        have hne : ∀ i, n - k ≤ i → i < n → f i ≠ j := fun i h1 h2 e => by
          have := (hf1 i h1 h2).2.2
          rw [e] at this
          exact this (by simp)
        refine ⟨fun i => if i = n - (k + 1) then j else f i, fun i h1 h2 => ?_, fun i l h1 h2 h3 h4 he => ?_⟩
        · by_cases e : i = n - (k + 1)
          · subst e; simp only [if_pos]; exact ⟨hj, p1, hu⟩
          · simp only [if_neg e]
            obtain ⟨a1, a2, a3⟩ := hf1 i (by omega) h2
            exact ⟨a1, a2, fun h => a3 (List.mem_append_left _ h)⟩
        · by_cases e : i = n - (k + 1) <;> by_cases e' : l = n - (k + 1)
          · omega
          · simp only [if_pos e, if_neg e'] at he; exact absurd he.symm (hne l (by omega) h4)
          · simp only [if_neg e, if_pos e'] at he; exact absurd he (hne i (by omega) h2)
          · simp only [if_neg e, if_neg e'] at he; exact hf2 i l (by omega) h2 (by omega) h4 he
    · rintro ⟨f, hf1, hf2⟩
      obtain ⟨a1, a2, a3⟩ := hf1 (n - (k + 1)) (by omega) (by omega)
      refine ⟨f (n - (k + 1)), a1, ?_⟩
      rw [if_neg a3]
      refine Int.mul_pos a2 ((ih _ (by omega)).2 ⟨f, fun i h1 h2 => ?_, fun i l h1 h2 h3 h4 => hf2 i l (by omega) h2 (by omega) h4⟩)
      obtain ⟨b1, b2, b3⟩ := hf1 i (by omega) h2
      refine ⟨b1, b2, fun h => ?_⟩
      rw [List.mem_append, List.mem_singleton] at h
      rcases h with h | h
      · exact b3 h
      · have := hf2 i (n - (k + 1)) (by omega) h2 (by omega) (by omega) (by omega)
        omega
/-- FROBENIUS, KONIG -/
theorem frobenius (n : Nat) {M : Nat → Nat → Int} (hM : ∀ i j, 0 ≤ M i j) (adj : Nat → Nat → Bool) (ha : ∀ i j, i < n → j < n → (adj i j = true ↔ 0 < M i j)) :
    G 1 n M = 0 ↔ ∃ S : Nat → Bool, cnt n (nb n adj S) < cnt n S := by
  rw [← permU_all]
  have h1 := permU_nonneg n hM n []
  have h2 := permU_pos n hM n [] (Nat.le_refl n)
  constructor
  · intro h0
    refine Classical.byContradiction fun hno => ?_
    have hS : ∀ S : Nat → Bool, cnt n S ≤ cnt n (nb n adj S) := fun S => by
      rcases Nat.lt_or_ge (cnt n (nb n adj S)) (cnt n S) with h | h
      · exact absurd ⟨S, h⟩ hno
      · exact h
    obtain ⟨f, hf1, hf2⟩ := hall n n adj n (fun _ => true) (fun _ => true) (by
      have : ∀ n, cnt n (fun _ => true) = n := by
        intro n
        induction n with
        | zero => rfl
        | succ n ih => rw [cnt, ih]; rfl
      exact this n) (fun S _ => by simpa using hS S)
    have := h2.2 ⟨f, fun i _ hi => by
      obtain ⟨a1, a2, a3⟩ := hf1 i hi rfl
      exact ⟨a1, (ha i (f i) hi a1).1 a3, by simp⟩, fun i l _ hi _ hl => hf2 i l hi hl rfl rfl⟩
    omega
  · rintro ⟨S, hS⟩
    refine Classical.byContradiction fun hne => ?_
    obtain ⟨f, hf1, hf2⟩ := h2.1 (by omega)
    have := pair_cnt n n S (nb n adj S) f (fun i hi hs => by
      obtain ⟨a1, a2, _⟩ := hf1 i (by omega) hi
      exact ⟨a1, nb_iff.2 ⟨i, hi, hs, (ha i (f i) hi a1).2 a2⟩⟩) (fun i k hi hk _ _ => hf2 i k (by omega) hi (by omega) hk)
    omega

/-- the bits of a number -/
def bitOf (s i : Nat) : Bool := decide (s / 2 ^ i % 2 = 1)
def enc : Nat → (Nat → Bool) → Nat
  | 0, _ => 0
  | n + 1, S => (if S 0 = true then 1 else 0) + 2 * enc n (fun i => S (i + 1))
theorem enc_lt (n : Nat) : ∀ S, enc n S < 2 ^ n := by
  induction n with
  | zero => intro S; rw [enc]; decide
  | succ n ih =>
    intro S
    have := ih (fun i => S (i + 1))
    rw [enc, Nat.pow_succ]
    split <;> omega
theorem enc_bit (n : Nat) : ∀ S i, i < n → bitOf (enc n S) i = S i := by
  induction n with
  | zero => intro S i hi; omega
  | succ n ih =>
    intro S i hi
    match i with
    | 0 =>
      unfold bitOf
      rw [enc, Nat.pow_zero, Nat.div_one]
      cases S 0
      · rw [if_neg (by decide), decide_eq_false (by omega)]
      · rw [if_pos rfl, decide_eq_true (by omega)]
    | i + 1 =>
      have := ih (fun i => S (i + 1)) i (by omega)
      rw [← this]
      unfold bitOf
      have e : ((if S 0 = true then 1 else 0) + 2 * enc n (fun i => S (i + 1))) / 2 = enc n (fun i => S (i + 1)) := by split <;> omega
      rw [enc, Nat.pow_succ, Nat.mul_comm (2 ^ i) 2, ← Nat.div_div_eq_div_mul, e]
theorem frob_bits (n : Nat) (adj : Nat → Nat → Bool) : (∃ S : Nat → Bool, cnt n (nb n adj S) < cnt n S) ↔ ∃ s, 1 ≤ s ∧ s < 2 ^ n ∧ cnt n (nb n adj (bitOf s)) < cnt n (bitOf s) := by
  constructor
  · rintro ⟨S, hS⟩
    have e1 : cnt n (bitOf (enc n S)) = cnt n S := cnt_congr fun i hi => enc_bit n S i hi
    have e2 : nb n adj (bitOf (enc n S)) = nb n adj S := by
      funext j
      rw [Bool.eq_iff_iff, nb_iff, nb_iff]
      constructor
      · rintro ⟨i, a1, a2, a3⟩; exact ⟨i, a1, by rw [← enc_bit n S i a1]; exact a2, a3⟩
      · rintro ⟨i, a1, a2, a3⟩; exact ⟨i, a1, by rw [enc_bit n S i a1]; exact a2, a3⟩
    refine ⟨enc n S, ?_, enc_lt n S, by rw [e1, e2]; exact hS⟩
    rcases Nat.eq_zero_or_pos (enc n S) with h | h
    · exfalso
      have : cnt n S = 0 := by
        rw [← e1, h]
        exact cnt_none fun i hi => by unfold bitOf; rw [Nat.zero_div]; rfl
      omega
    · exact h
  · rintro ⟨s, _, _, h⟩
    exact ⟨bitOf s, h⟩
end Go.Proofs.Ytacdhgenpcgddaa
