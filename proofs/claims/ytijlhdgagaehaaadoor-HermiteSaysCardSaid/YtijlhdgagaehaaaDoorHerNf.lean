/- Plain law: the normal form of rows: what it tells, and that there is only one. No program in sight. -/
import Derived.Test.YtijlhdgagaehaaaDoorHerMath
namespace Go.Proofs.YtijlhdgagaehaaaDoor
open Go.RowKit
set_option linter.unusedVariables false
set_option linter.unusedSimpArgs false

/-- the first c columns are as they are to be -/
structure Done (n c : Nat) (M : Nat → Nat → Int) : Prop where
  low : ∀ i j, j < c → j < i → i < n → M i j = 0
  mid : ∀ j, j < c → 0 < M j j
  up : ∀ i j, i < j → j < c → 0 ≤ M i j ∧ M i j < M j j

/-- noughts in front: the first numbers before the rows are noughts -/
theorem done_coef {n : Nat} {M : Nat → Nat → Int} (h : Done n n M) {x c : Nat → Int} (hc : ∀ j, j < n → x j = sumTo (fun i => c i * M i j) n) (k : Nat) (hk : k ≤ n) (hx : ∀ j, j < k → x j = 0) : ∀ j, j < k → c j = 0 := by
  intro j
  induction j using Nat.strongRecOn with
  | _ j ih =>
    intro hj
    have h1 := hc j (by omega)
    rw [hx j hj, sum_one n j (by omega) _ (fun i hi hne => by
      rcases Nat.lt_or_gt_of_ne hne with h2 | h2
      · rw [ih i h2 (by omega)]; simp
      · rw [h.low i j (by omega) h2 hi]; simp)] at h1
    have h3 := h.mid j (by omega)
    rcases Int.mul_eq_zero.1 h1.symm with h4 | h4
    · exact h4
    · omega
theorem done_at {n : Nat} {M : Nat → Nat → Int} (h : Done n n M) {x c : Nat → Int} (hc : ∀ j, j < n → x j = sumTo (fun i => c i * M i j) n) {k : Nat} (hk : k < n) (hx : ∀ j, j < k → x j = 0) : x k = c k * M k k := by
  have h0 := done_coef h hc k (by omega) hx
  rw [hc k hk, sum_one n k hk _ (fun i hi hne => by
    rcases Nat.lt_or_gt_of_ne hne with h2 | h2
    · rw [h0 i h2]; simp
    · rw [h.low i k hk h2 hi]; simp)]
/-- with noughts in front the next number is so many times the middle -/
theorem done_dvd {n : Nat} {M : Nat → Nat → Int} (h : Done n n M) {x : Nat → Int} (hl : Lat n M x) {k : Nat} (hk : k < n) (hx : ∀ j, j < k → x j = 0) : M k k ∣ x k := by
  obtain ⟨c, hc⟩ := hl
  exact ⟨c k, by rw [done_at h hc hk hx]; exact Int.mul_comm _ _⟩
theorem done_one {n : Nat} {A B : Nat → Nat → Int} (ha : Done n n A) (hb : Done n n B) (h : ∀ x, Lat n A x ↔ Lat n B x) : ∀ i j, i < n → j < n → A i j = B i j := by
  have hd : ∀ i, i < n → A i i = B i i := by
    intro i hi
    have h1 := done_dvd hb ((h _).1 (lat_row A hi)) hi (fun j hj => ha.low i j (by omega) hj hi)
    have h2 := done_dvd ha ((h _).2 (lat_row B hi)) hi (fun j hj => hb.low i j (by omega) hj hi)
    exact Int.dvd_antisymm (Int.le_of_lt (ha.mid i hi)) (Int.le_of_lt (hb.mid i hi)) h2 h1
  intro i j hi hj
  have hl := lat_lin ((h _).1 (lat_row A hi)) (lat_row B hi) 1 (-1)
  obtain ⟨c, hc⟩ := hl
  have hz : ∀ j, j < n → A i j - B i j = 0 := by
    intro j
    induction j using Nat.strongRecOn with
    | _ j ih =>
      intro hj
      have h1 := done_at hb hc hj (fun k hk => by have := ih k hk (by omega); show 1 * A i k + -1 * B i k = 0; omega)
      have h1 : 1 * A i j + -1 * B i j = c j * B j j := h1
      rcases Nat.lt_trichotomy j i with h2 | h2 | h2
      · rw [ha.low i j (by omega) h2 hi, hb.low i j (by omega) h2 hi]; rfl
      · subst h2; rw [hd j hj]; omega
      · obtain ⟨u1, u2⟩ := ha.up i j h2 hj
        obtain ⟨v1, v2⟩ := hb.up i j h2 hj
        rw [hd j hj] at u2
        have hm := hb.mid j hj
        have e : A i j - B i j = c j * B j j := by omega
        rw [e]
        have h5 : c j * B j j < 1 * B j j := by omega
        have h6 : -1 * B j j < c j * B j j := by omega
        have h7 := Int.lt_of_mul_lt_mul_right h5 (Int.le_of_lt hm)
        have h8 := Int.lt_of_mul_lt_mul_right h6 (Int.le_of_lt hm)
        obtain h9 : c j = 0 := by omega
        rw [h9]; omega
  have := hz j hj
  omega

/-- the product of the middle -/
def diagTo (M : Nat → Nat → Int) : Nat → Int
  | 0 => 1
  | k + 1 => diagTo M k * M k k
theorem diagTo_head (M : Nat → Nat → Int) (n : Nat) : diagTo M (n + 1) = M 0 0 * diagTo (fun a b => M (a + 1) (b + 1)) n := by
  induction n with
  | zero => simp [diagTo]
  | succ n ih => rw [diagTo, ih, diagTo, Int.mul_assoc]
theorem det_diag : ∀ (n : Nat) (M : Nat → Nat → Int), (∀ i j, j < i → i < n → M i j = 0) → G (-1) n M = diagTo M n := by
  intro n
  induction n with
  | zero => intro M _; rfl
  | succ n ih =>
    intro M h
    rw [G_col0, sum_one (n + 1) 0 (by omega) _ (fun i hi hne => by rw [h i 0 (by omega) hi]; simp), diagTo_head, ← ih _ (fun i j hj hi => h (i + 1) (j + 1) (by omega) (by omega))]
    have e : minor M 0 0 = fun a b => M (a + 1) (b + 1) := by
      funext a b
      simp [minor, sk]
    rw [e]
    simp [pw]
theorem diag_pos {M : Nat → Nat → Int} : ∀ (k : Nat), (∀ j, j < k → 0 < M j j) → 0 < diagTo M k := by
  intro k
  induction k with
  | zero => intro _; exact Int.one_pos
  | succ k ih => intro h; exact Int.mul_pos (ih fun j hj => h j (by omega)) (h k (by omega))
theorem diag_le {M : Nat → Nat → Int} : ∀ (k : Nat), (∀ j, j < k → 0 < M j j) → ∀ j, j < k → M j j ≤ diagTo M k := by
  intro k
  induction k with
  | zero => intro _ j hj; omega
  | succ k ih =>
    intro h j hj
    have h0 := diag_pos k (fun j hj => h j (by omega))
    have h1 := h k (by omega)
    rw [diagTo]
    by_cases hjk : j = k
    · subst hjk
      have := Int.mul_le_mul_of_nonneg_right (show (1 : Int) ≤ diagTo M j by omega) (Int.le_of_lt h1)
      omega
    · have h2 := ih (fun j hj => h j (by omega)) j (by omega)
      have := Int.mul_le_mul_of_nonneg_left (show (1 : Int) ≤ M k k by omega) (Int.le_of_lt h0)
      omega
theorem diag_part {M : Nat → Nat → Int} {n : Nat} (h : ∀ j, j < n → 0 < M j j) : ∀ d k, k + d = n → diagTo M k ≤ diagTo M n := by
  intro d
  induction d with
  | zero => intro k hk; obtain rfl : k = n := by omega
            exact Int.le_refl _
  | succ d ih =>
    intro k hk
    have h1 := ih (k + 1) (by omega)
    have h0 := diag_pos k (fun j hj => h j (by omega))
    have h2 := h k (by omega)
    rw [diagTo] at h1
    have := Int.mul_le_mul_of_nonneg_left (show (1 : Int) ≤ M k k by omega) (Int.le_of_lt h0)
    omega

/-- A is the normal form of M -/
structure FormOf (n : Nat) (M A : Nat → Nat → Int) : Prop where
  like : Like n M A
  done : Done n n A
theorem FormOf.diag {n : Nat} {M A : Nat → Nat → Int} (h : FormOf n M A) : diagTo A n = if G (-1) n M < 0 then -G (-1) n M else G (-1) n M := by
  have h1 := det_diag n A (fun i j hj hi => h.done.low i j (by omega) hj hi)
  have h2 := diag_pos n h.done.mid
  rcases h.like.2 with h3 | h3
  · rw [if_neg (by omega)]; omega
  · rw [if_pos (by omega)]; omega
theorem FormOf.one {n : Nat} {M N A B : Nat → Nat → Int} (h : FormOf n M A) (k : FormOf n N B) (hl : ∀ x, Lat n M x ↔ Lat n N x) : ∀ i j, i < n → j < n → A i j = B i j :=
  done_one h.done k.done (fun x => ((h.like.1 x).symm.trans (hl x)).trans (k.like.1 x))
end Go.Proofs.YtijlhdgagaehaaaDoor
