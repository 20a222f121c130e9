/- Plain law: the Euclidean algorithm of two rows: how great its numbers get. No program in sight. -/
import Derived.Test.YtijlhdgagaehaaaDoorHerNf
namespace Go.Proofs.YtijlhdgagaehaaaDoor
open Go.RowKit
set_option linter.unusedVariables false
set_option linter.unusedSimpArgs false

/-- one step, in numbers without sign -/
theorem eu_nat {A B X Y K : Nat} (hB : 0 < B) (h : A * Y + B * X ≤ K) : B * (X + A / B * Y) + A % B * Y ≤ K ∧ A / B * Y ≤ K ∧ X + A / B * Y ≤ K ∧ A % B < B := by
  have h1 : B * (A / B) + A % B = A := Nat.div_add_mod A B
  have h2 : B * (X + A / B * Y) + A % B * Y = B * X + (B * (A / B) + A % B) * Y := by
    rw [Nat.mul_add, Nat.add_mul, Nat.mul_assoc]; omega
  have h3 : X + A / B * Y ≤ B * (X + A / B * Y) := Nat.le_mul_of_pos_left _ hB
  rw [h1] at h2
  refine ⟨by omega, ?_, ?_, Nat.mod_lt _ hB⟩
  · omega
  · omega
theorem eu_step {a b x y : Int} {K : Nat} (hb : b ≠ 0) (h : a.natAbs * y.natAbs + b.natAbs * x.natAbs ≤ K) :
    b.natAbs * (x - a.tdiv b * y).natAbs + (a - a.tdiv b * b).natAbs * y.natAbs ≤ K ∧ (a.tdiv b * y).natAbs ≤ K ∧ (x - a.tdiv b * y).natAbs ≤ K ∧ (a - a.tdiv b * b).natAbs < b.natAbs := by
  have hB : 0 < b.natAbs := by omega
  obtain ⟨h1, h2, h3, h4⟩ := eu_nat hB h
  have e1 : (a.tdiv b).natAbs = a.natAbs / b.natAbs := Int.natAbs_tdiv a b
  have e2 : a - a.tdiv b * b = a.tmod b := by
    have := Int.tmod_add_mul_tdiv a b
    rw [Int.mul_comm b] at this
    omega
  have e3 : (a.tmod b).natAbs = a.natAbs % b.natAbs := Int.natAbs_tmod a b
  have e4 : (a.tdiv b * y).natAbs = a.natAbs / b.natAbs * y.natAbs := by rw [Int.natAbs_mul, e1]
  have h5 : (x - a.tdiv b * y).natAbs ≤ x.natAbs + a.natAbs / b.natAbs * y.natAbs := by rw [← e4]; omega
  rw [e2, e3, e4]
  refine ⟨?_, h2, by omega, h4⟩
  have := Nat.mul_le_mul_left b.natAbs h5
  omega
/-- a number times another one -/
theorem natAbs_mul_le {x y : Int} {a b : Nat} (h1 : x.natAbs ≤ a) (h2 : y.natAbs ≤ b) : x.natAbs * y.natAbs ≤ a * b := Nat.mul_le_mul h1 h2

/-- bounds: of the column that is being cleared; of all numbers -/
def leadB (c : Nat) : Nat := if c = 0 then 20 else if c = 1 then 32000 else 100000000000000
def wideB (c i : Nat) : Nat := if c = 0 then (if i = 1 then 20 else if i = 2 then 800 else 32000) else if c = 1 then (if i = 2 then 32000 else 2048000000) else 100000000000000
theorem wide_next {c i : Nat} (h : c < i) (hi : i < 3) : wideB c (i + 1) = leadB c * wideB c i + leadB c * wideB c i := by
  have hc : (c = 0 ∧ i = 1) ∨ (c = 0 ∧ i = 2) ∨ (c = 1 ∧ i = 2) := by omega
  rcases hc with ⟨rfl, rfl⟩ | ⟨rfl, rfl⟩ | ⟨rfl, rfl⟩ <;> decide
theorem wide_le {c i : Nat} (h : c < i) (hi : i < 3) : wideB c i ≤ wideB c (i + 1) := by
  have hc : (c = 0 ∧ i = 1) ∨ (c = 0 ∧ i = 2) ∨ (c = 1 ∧ i = 2) := by omega
  rcases hc with ⟨rfl, rfl⟩ | ⟨rfl, rfl⟩ | ⟨rfl, rfl⟩ <;> decide
theorem lead_wide {c i : Nat} (h : c < i) (hi : i ≤ 3) : leadB c ≤ wideB c i := by
  have hc : (c = 0 ∧ i = 1) ∨ (c = 0 ∧ i = 2) ∨ (c = 0 ∧ i = 3) ∨ (c = 1 ∧ i = 2) ∨ (c = 1 ∧ i = 3) ∨ (c = 2 ∧ i = 3) := by omega
  rcases hc with ⟨rfl, rfl⟩ | ⟨rfl, rfl⟩ | ⟨rfl, rfl⟩ | ⟨rfl, rfl⟩ | ⟨rfl, rfl⟩ | ⟨rfl, rfl⟩ <;> decide
theorem lead_big (c : Nat) : leadB c ≤ 100000000000000 := by
  unfold leadB
  split
  · omega
  · split <;> omega
theorem wide_big (c i : Nat) : wideB c i ≤ 100000000000000 := by
  unfold wideB
  split
  · split
    · omega
    · split <;> omega
  · split
    · split <;> omega
    · omega

/-- column c: the rows from c + 1 up to i are over -/
structure EuClear (n c i : Nat) (M0 M : Nat → Nat → Int) : Prop where
  like : Like n M0 M
  done : Done n c M
  zero : ∀ a, c < a → a < i → M a c = 0
  lead : ∀ a, c ≤ a → a < n → (M a c).natAbs ≤ leadB c
  wide : ∀ a b, a < n → b < n → (M a b).natAbs ≤ wideB c i
  old : ∀ a b, a < c → b < n → (M a b).natAbs ≤ leadB c
/-- within: rows c and i -/
structure EuSt (n c i : Nat) (M0 M : Nat → Nat → Int) : Prop where
  like : Like n M0 M
  done : Done n c M
  zero : ∀ a, c < a → a < i → M a c = 0
  lead : ∀ a, c ≤ a → a < n → (M a c).natAbs ≤ leadB c
  wide : ∀ a b, a < n → b < n → (M a b).natAbs ≤ wideB c (i + 1)
  old : ∀ a b, a < c → b < n → (M a b).natAbs ≤ leadB c
  both : ∀ b, b < n → (M c c).natAbs * (M i b).natAbs + (M i c).natAbs * (M c b).natAbs ≤ wideB c (i + 1)
theorem EuClear.steps {n c i : Nat} {M0 M : Nat → Nat → Int} (h : EuClear n c i M0 M) (hn : n ≤ 3) (hc : c < i) (hi : i < n) : EuSt n c i M0 M := by
  refine ⟨h.like, h.done, h.zero, h.lead, fun a b ha hb => Nat.le_trans (h.wide a b ha hb) (wide_le hc (by omega)), h.old, fun b hb => ?_⟩
  rw [wide_next hc (by omega)]
  exact Nat.add_le_add (natAbs_mul_le (h.lead c (Nat.le_refl c) (by omega)) (h.wide i b hi hb)) (natAbs_mul_le (h.lead i (by omega) hi) (h.wide c b (by omega) hb))
theorem EuSt.over {n c i : Nat} {M0 M : Nat → Nat → Int} (h : EuSt n c i M0 M) (h0 : M i c = 0) : EuClear n c (i + 1) M0 M :=
  ⟨h.like, h.done, fun a h1 h2 => by
    by_cases ha : a = i
    · rw [ha, h0]
    · exact h.zero a h1 (by omega), h.lead, h.wide, h.old⟩
theorem Done.congr {n c : Nat} {M N : Nat → Nat → Int} (h : Done n c M) (hc : c ≤ n) (he : ∀ a b, a < n → b < n → N a b = M a b) : Done n c N :=
  ⟨fun i j hj hji hi => by rw [he i j hi (by omega)]; exact h.low i j hj hji hi, fun j hj => by rw [he j j (by omega) (by omega)]; exact h.mid j hj, fun i j hij hj => by rw [he i j (by omega) (by omega), he j j (by omega) (by omega)]; exact h.up i j hij hj⟩
theorem like_to {n : Nat} {M0 M N : Nat → Nat → Int} (h : Like n M0 M) (he : ∀ a b, a < n → b < n → N a b = M a b) : Like n M0 N := h.trans (like_congr fun a b ha hb => (he a b ha hb).symm)
theorem EuSt.congr {n c i : Nat} {M0 M N : Nat → Nat → Int} (h : EuSt n c i M0 M) (hc : c < n) (hi : i < n) (he : ∀ a b, a < n → b < n → N a b = M a b) : EuSt n c i M0 N :=
  ⟨like_to h.like he, h.done.congr (by omega) he, fun a h1 h2 => by rw [he a c (by omega) hc]; exact h.zero a h1 h2, fun a h1 h2 => by rw [he a c h2 hc]; exact h.lead a h1 h2, fun a b ha hb => by rw [he a b ha hb]; exact h.wide a b ha hb, fun a b ha hb => by rw [he a b (by omega) hb]; exact h.old a b ha hb,
    fun b hb => by rw [he c c hc hc, he i b hi hb, he i c hi hc, he c b hc hb]; exact h.both b hb⟩
/-- a change of two rows from c on keeps what is over -/
theorem done_keep {n c : Nat} {M N : Nat → Nat → Int} (h : Done n c M) (h1 : ∀ a b, a < c → N a b = M a b) (h2 : ∀ a b, c ≤ a → a < n → b < c → N a b = 0) : Done n c N := by
  refine ⟨fun i j hj hji hi => ?_, fun j hj => by rw [h1 j j hj]; exact h.mid j hj, fun i j hij hj => by rw [h1 i j (by omega), h1 j j hj]; exact h.up i j hij hj⟩
  by_cases hic : i < c
  · rw [h1 i j hic]; exact h.low i j hj hji hi
  · exact h2 i j (by omega) hi hj
theorem EuSt.next {n c i : Nat} {M0 M : Nat → Nat → Int} (h : EuSt n c i M0 M) (hn : n ≤ 3) (hc : c < i) (hi : i < n) (h0 : M i c ≠ 0) :
    EuSt n c i M0 (swapR (setRow M c (fun j => M c j - (M c c).tdiv (M i c) * M i j)) c i) ∧ (swapR (setRow M c (fun j => M c j - (M c c).tdiv (M i c) * M i j)) c i i c).natAbs < (M i c).natAbs ∧
      ∀ b, b < n → ((M c c).tdiv (M i c) * M i b).natAbs ≤ wideB c (i + 1) := by
  obtain ⟨q, hq⟩ : ∃ q, q = (M c c).tdiv (M i c) := ⟨_, rfl⟩
  have hE := fun b (hb : b < n) => eu_step (x := M c b) (y := M i b) h0 (h.both b hb)
  rw [← hq] at hE ⊢
  have hci : c ≠ i := by omega
  have s1 : sw c i c = i := by unfold sw; rw [if_pos rfl]
  have s2 : sw c i i = c := by unfold sw; rw [if_neg (by omega), if_pos rfl]
  have e1 : ∀ b, swapR (setRow M c (fun j => M c j - q * M i j)) c i c b = M i b := fun b => by
    show setRow M c (fun j => M c j - q * M i j) (sw c i c) b = M i b
    rw [s1]; exact if_neg (by omega)
  have e2 : ∀ b, swapR (setRow M c (fun j => M c j - q * M i j)) c i i b = M c b - q * M i b := fun b => by
    show setRow M c (fun j => M c j - q * M i j) (sw c i i) b = _
    rw [s2]; exact if_pos rfl
  have e3 : ∀ a b, a ≠ c → a ≠ i → swapR (setRow M c (fun j => M c j - q * M i j)) c i a b = M a b := fun a b h1 h2 => by
    show setRow M c (fun j => M c j - q * M i j) (sw c i a) b = M a b
    have : sw c i a = a := by unfold sw; rw [if_neg h1, if_neg h2]
    rw [this]; exact if_neg h1
  have hlow : ∀ a b, c ≤ a → a < n → b < c → M a b = 0 := fun a b h1 h2 h3 => h.done.low a b h3 (by omega) h2
  refine ⟨⟨h.like.trans ((like_less (by omega) hi hci M q).trans (like_swap (by omega) hi hci _)), done_keep h.done (fun a b ha => e3 a b (by omega) (by omega)) (fun a b h1 h2 h3 => ?_), fun a h1 h2 => ?_, fun a h1 h2 => ?_, fun a b ha hb => ?_, fun a b ha hb => by rw [e3 a b (by omega) (by omega)]; exact h.old a b ha hb, fun b hb => ?_⟩, ?_, fun b hb => (hE b hb).2.1⟩
  · by_cases ha : a = c
    · rw [ha, e1]; exact hlow i b (by omega) hi h3
    · by_cases hai : a = i
      · rw [hai, e2, hlow i b (by omega) hi h3, hlow c b (Nat.le_refl c) (by omega) h3]; simp
      · rw [e3 a b ha hai]; exact hlow a b h1 h2 h3
  · rw [e3 a c (by omega) (by omega)]; exact h.zero a h1 h2
  · by_cases ha : a = c
    · rw [ha, e1]; exact h.lead i (by omega) hi
    · by_cases hai : a = i
      · rw [hai, e2]
        have := (hE c (by omega)).2.2.2
        have := h.lead i (by omega) hi
        omega
      · rw [e3 a c ha hai]; exact h.lead a h1 h2
  · by_cases hac : a = c
    · rw [hac, e1]; exact h.wide i b hi hb
    · by_cases hai : a = i
      · rw [hai, e2]; exact (hE b hb).2.2.1
      · rw [e3 a b hac hai]; exact h.wide a b ha hb
  · rw [e1, e1, e2, e2]
    exact (hE b hb).1
  · rw [e2]
    exact (hE c (by omega)).2.2.2
/-- a nought in the middle makes the determinant 0 -/
theorem det_stop : ∀ (c n : Nat) (M : Nat → Nat → Int), c < n → (∀ i j, j ≤ c → j < i → i < n → M i j = 0) → M c c = 0 → G (-1) n M = 0 := by
  intro c
  induction c with
  | zero =>
    intro n M hn h h0
    obtain ⟨m, rfl⟩ : ∃ m, n = m + 1 := ⟨n - 1, by omega⟩
    rw [G_col0, sumTo_congr (g := fun _ => 0) (fun i hi => ?_), sumTo_zero]
    by_cases hi0 : i = 0
    · rw [hi0, h0]; simp
    · rw [h i 0 (Nat.le_refl 0) (by omega) hi]; simp
  | succ c ih =>
    intro n M hn h h0
    obtain ⟨m, rfl⟩ : ∃ m, n = m + 1 := ⟨n - 1, by omega⟩
    have e : minor M 0 0 = fun a b => M (a + 1) (b + 1) := by
      funext a b
      simp [minor, sk]
    rw [G_col0, sum_one (m + 1) 0 (by omega) _ (fun i hi hne => by rw [h i 0 (by omega) (by omega) hi]; simp), e, ih m _ (by omega) (fun i j h1 h2 h3 => h (i + 1) (j + 1) (by omega) (by omega) (by omega)) h0]
    simp
/-- the column is cleared and its middle is above 0; of the rows ahead i are reduced -/
structure ColSt (n c i : Nat) (M0 M : Nat → Nat → Int) : Prop where
  like : Like n M0 M
  done : Done n c M
  zero : ∀ a, c < a → a < n → M a c = 0
  mid : 0 < M c c
  up : ∀ a, a < i → 0 ≤ M a c ∧ M a c < M c c
  here : ∀ a b, c ≤ a → a < n → b < n → (M a b).natAbs ≤ wideB c n
  old : ∀ a b, i ≤ a → a < c → b < n → (M a b).natAbs ≤ leadB c
  new : ∀ a b, a < i → b < n → (M a b).natAbs ≤ leadB (c + 1)
theorem EuClear.ne {n c : Nat} {M0 M : Nat → Nat → Int} (h : EuClear n c n M0 M) (hc : c < n) (h0 : G (-1) n M0 ≠ 0) : M c c ≠ 0 := by
  intro he
  have h1 := det_stop c n M hc (fun i j h1 h2 h3 => by
    by_cases hj : j = c
    · rw [hj]; exact h.zero i (by omega) h3
    · exact h.done.low i j (by omega) h2 h3) he
  rcases h.like.2 with h2 | h2 <;> omega
theorem EuClear.pos {n c : Nat} {M0 M : Nat → Nat → Int} (h : EuClear n c n M0 M) (hc : c < n) (hp : 0 < M c c) : ColSt n c 0 M0 M :=
  ⟨h.like, h.done, h.zero, hp, fun a ha => by omega, fun a b _ h2 h3 => h.wide a b h2 h3, fun a b _ h2 h3 => h.old a b h2 h3, fun a b ha => by omega⟩
theorem EuClear.neg {n c : Nat} {M0 M : Nat → Nat → Int} (h : EuClear n c n M0 M) (hc : c < n) (hp : M c c < 0) : ColSt n c 0 M0 (setRow M c (fun j => -1 * M c j)) := by
  have e1 : ∀ b, setRow M c (fun j => -1 * M c j) c b = -1 * M c b := fun b => if_pos rfl
  have e2 : ∀ a b, a ≠ c → setRow M c (fun j => -1 * M c j) a b = M a b := fun a b h => if_neg h
  refine ⟨h.like.trans (like_neg hc M), done_keep h.done (fun a b ha => e2 a b (by omega)) (fun a b h1 h2 h3 => ?_), fun a h1 h2 => by rw [e2 a c (by omega)]; exact h.zero a h1 h2, by rw [e1]; omega, fun a ha => by omega, fun a b h1 h2 h3 => ?_, fun a b _ h2 h3 => by rw [e2 a b (by omega)]; exact h.old a b h2 h3, fun a b ha => by omega⟩
  · by_cases hac : a = c
    · rw [hac, e1, h.done.low c b h3 h3 hc]; rfl
    · rw [e2 a b hac]; exact h.done.low a b h3 (by omega) h2
  · by_cases hac : a = c
    · rw [hac, e1]
      have := h.wide c b hc h3
      omega
    · rw [e2 a b hac]; exact h.wide a b h2 h3
theorem floor_abs {x m : Int} (hm : 0 < m) : (x / m).natAbs ≤ x.natAbs ∧ (x / m * m).natAbs ≤ x.natAbs + m.natAbs ∧ 0 ≤ x - x / m * m ∧ x - x / m * m < m := by
  have h1 := Int.emod_add_mul_ediv x m
  have h2 := Int.emod_nonneg x (show m ≠ 0 by omega)
  have h3 := Int.emod_lt_of_pos x hm
  rw [Int.mul_comm m] at h1
  obtain ⟨q, hq⟩ : ∃ q, q = x / m := ⟨_, rfl⟩
  rw [← hq] at h1 ⊢
  have h4 : (q * m).natAbs = q.natAbs * m.natAbs := Int.natAbs_mul q m
  refine ⟨?_, by omega, by omega, by omega⟩
  by_cases hx : 0 ≤ x
  · have hq0 : 0 ≤ q := by rw [hq]; exact Int.ediv_nonneg hx (by omega)
    have : q * 1 ≤ q * m := Int.mul_le_mul_of_nonneg_left (by omega) hq0
    omega
  · have hq0 : q < 0 := by rw [hq]; exact Int.ediv_neg_of_neg_of_pos (by omega) hm
    have h5 : (q + 1) * m ≤ (q + 1) * 1 := Int.mul_le_mul_of_nonpos_left (by omega) (by omega)
    rw [Int.add_mul] at h5
    omega
theorem red_big {n c : Nat} (hn : n ≤ 3) (hc : c < n) (h0 : 0 < c) : (c = 1 ∧ leadB c * wideB c n ≤ 65536000000000 ∧ leadB (c + 1) = 100000000000000 ∧ leadB c = 32000) ∨ (c = 2 ∧ n = 3 ∧ leadB (c + 1) = 100000000000000 ∧ leadB c = 100000000000000 ∧ wideB c n = 100000000000000) := by
  have hx : (c = 1 ∧ n = 2) ∨ (c = 1 ∧ n = 3) ∨ (c = 2 ∧ n = 3) := by omega
  rcases hx with ⟨rfl, rfl⟩ | ⟨rfl, rfl⟩ | ⟨rfl, rfl⟩ <;> decide
theorem ColSt.next {n c i : Nat} {M0 M : Nat → Nat → Int} (h : ColSt n c i M0 M) (hn : n ≤ 3) (hc : c < n) (hi : i < c) :
    ColSt n c (i + 1) M0 (setRow M i (fun j => M i j - M i c / M c c * M c j)) ∧ ∀ b, b < n → (M i c / M c c * M c b).natAbs ≤ 200000000000000 := by
  obtain ⟨t, ht⟩ : ∃ t, t = M i c / M c c := ⟨_, rfl⟩
  obtain ⟨f1, f2, f3, f4⟩ := floor_abs (x := M i c) h.mid
  rw [← ht] at f1 f2 f3 f4 ⊢
  have e1 : ∀ b, setRow M i (fun j => M i j - t * M c j) i b = M i b - t * M c b := fun b => if_pos rfl
  have e2 : ∀ a b, a ≠ i → setRow M i (fun j => M i j - t * M c j) a b = M a b := fun a b h => if_neg h
  have hz : ∀ b, b < c → M c b = 0 := fun b hb => h.done.low c b hb hb hc
  have hm := h.here c c (Nat.le_refl c) hc hc
  have ho := h.old i c (Nat.le_refl i) hi hc
  have hbig := red_big hn hc (by omega)
  have hb : ∀ b, b < n → (t * M c b).natAbs ≤ 200000000000000 ∧ (M i b - t * M c b).natAbs ≤ leadB (c + 1) := by
    intro b hbn
    have hob := h.old i b (Nat.le_refl i) hi hbn
    rcases Nat.lt_trichotomy b c with h1 | h1 | h1
    · rw [hz b h1, Int.mul_zero]
      rcases hbig with ⟨_, _, h2, h3⟩ | ⟨_, _, h2, h3, h4⟩ <;> rw [h2] <;> rw [h3] at hob <;> omega
    · rw [h1]
      rcases hbig with ⟨_, h5, h2, h3⟩ | ⟨_, _, h2, h3, h4⟩
      · have h6 := natAbs_mul_le (Nat.le_trans f1 ho) hm
        rw [← Int.natAbs_mul] at h6
        rw [h2]; rw [h3] at ho; omega
      · rw [h2]; rw [h3] at ho; rw [h4] at hm; omega
    · have hmb := h.here c b (Nat.le_refl c) hc hbn
      rcases hbig with ⟨_, h5, h2, h3⟩ | ⟨h6, h7, h2, h3, h4⟩
      · have h6 := natAbs_mul_le (Nat.le_trans f1 ho) hmb
        rw [← Int.natAbs_mul] at h6
        rw [h2]; rw [h3] at hob; omega
      · omega
  refine ⟨⟨h.like.trans (like_less (by omega) hc (by omega) M t), ⟨fun a j hj hja ha => ?_, fun j hj => ?_, fun a j haj hj => ?_⟩, fun a h1 h2 => by rw [e2 a c (by omega)]; exact h.zero a h1 h2, by rw [e2 c c (by omega)]; exact h.mid, fun a ha => ?_, fun a b h1 h2 h3 => by rw [e2 a b (by omega)]; exact h.here a b h1 h2 h3, fun a b h1 h2 h3 => by rw [e2 a b (by omega)]; exact h.old a b (by omega) h2 h3, fun a b ha hbn => ?_⟩, fun b hbn => (hb b hbn).1⟩
  · by_cases hai : a = i
    · rw [hai, e1, hz j hj, h.done.low i j hj (by omega) (by omega)]; simp
    · rw [e2 a j hai]; exact h.done.low a j hj hja ha
  · by_cases hji : j = i
    · rw [hji, e1, hz i (by omega), Int.mul_zero, Int.sub_zero]; exact h.done.mid i (by omega)
    · rw [e2 j j hji]; exact h.done.mid j hj
  · have ed : setRow M i (fun j => M i j - t * M c j) j j = M j j := by
      by_cases hji : j = i
      · rw [hji, e1, hz i (by omega), Int.mul_zero, Int.sub_zero]
      · exact e2 j j hji
    have eu : setRow M i (fun j => M i j - t * M c j) a j = M a j := by
      by_cases hai : a = i
      · rw [hai, e1, hz j hj, Int.mul_zero, Int.sub_zero]
      · exact e2 a j hai
    rw [ed, eu]
    exact h.done.up a j haj hj
  · rw [e2 c c (by omega)]
    by_cases hai : a = i
    · rw [hai, e1]; exact ⟨f3, f4⟩
    · rw [e2 a c hai]; exact h.up a (by omega)
  · by_cases hai : a = i
    · rw [hai, e1]; exact (hb b hbn).2
    · rw [e2 a b hai]; exact h.new a b (by omega) hbn
theorem ColSt.congr {n c i : Nat} {M0 M N : Nat → Nat → Int} (h : ColSt n c i M0 M) (hc : c < n) (hi : i ≤ c) (he : ∀ a b, a < n → b < n → N a b = M a b) : ColSt n c i M0 N :=
  ⟨like_to h.like he, h.done.congr (by omega) he, fun a h1 h2 => by rw [he a c h2 hc]; exact h.zero a h1 h2, by rw [he c c hc hc]; exact h.mid, fun a ha => by rw [he a c (by omega) hc, he c c hc hc]; exact h.up a ha, fun a b h1 h2 h3 => by rw [he a b h2 h3]; exact h.here a b h1 h2 h3,
    fun a b h1 h2 h3 => by rw [he a b (by omega) h3]; exact h.old a b h1 h2 h3, fun a b h1 h2 => by rw [he a b (by omega) h2]; exact h.new a b h1 h2⟩
/-- the columns ahead of c are over -/
structure HStart (n c : Nat) (M0 M : Nat → Nat → Int) : Prop where
  like : Like n M0 M
  done : Done n c M
  all : ∀ a b, a < n → b < n → (M a b).natAbs ≤ leadB c
theorem wide_lead {n c : Nat} (hn : n ≤ 3) (hc : c < n) : wideB c n ≤ leadB (c + 1) := by
  have hx : (c = 0 ∧ n = 1) ∨ (c = 0 ∧ n = 2) ∨ (c = 0 ∧ n = 3) ∨ (c = 1 ∧ n = 2) ∨ (c = 1 ∧ n = 3) ∨ (c = 2 ∧ n = 3) := by omega
  rcases hx with ⟨rfl, rfl⟩ | ⟨rfl, rfl⟩ | ⟨rfl, rfl⟩ | ⟨rfl, rfl⟩ | ⟨rfl, rfl⟩ | ⟨rfl, rfl⟩ <;> decide
theorem ColSt.over {n c : Nat} {M0 M : Nat → Nat → Int} (h : ColSt n c c M0 M) (hn : n ≤ 3) (hc : c < n) : HStart n (c + 1) M0 M := by
  refine ⟨h.like, ⟨fun i j hj hji hi => ?_, fun j hj => ?_, fun i j hij hj => ?_⟩, fun a b ha hb => ?_⟩
  · by_cases hjc : j = c
    · rw [hjc]; exact h.zero i (by omega) hi
    · exact h.done.low i j (by omega) hji hi
  · by_cases hjc : j = c
    · rw [hjc]; exact h.mid
    · exact h.done.mid j (by omega)
  · by_cases hjc : j = c
    · rw [hjc]; exact h.up i (by omega)
    · exact h.done.up i j hij (by omega)
  · by_cases hac : a < c
    · exact h.new a b hac hb
    · exact Nat.le_trans (h.here a b (by omega) ha hb) (wide_lead hn hc)
theorem HStart.clear {n c : Nat} {M0 M : Nat → Nat → Int} (h : HStart n c M0 M) (hn : n ≤ 3) (hc : c < n) : EuClear n c (c + 1) M0 M :=
  ⟨h.like, h.done, fun a h1 h2 => by omega, fun a _ h2 => h.all a c h2 hc, fun a b h1 h2 => Nat.le_trans (h.all a b h1 h2) (lead_wide (by omega) (by omega)), fun a b h1 h2 => h.all a b (by omega) h2⟩
theorem HStart.first {n : Nat} {M : Nat → Nat → Int} (h : ∀ a b, a < n → b < n → (M a b).natAbs ≤ 20) : HStart n 0 M M :=
  ⟨Like.refl n M, ⟨fun i j hj => by omega, fun j hj => by omega, fun i j _ hj => by omega⟩, h⟩
theorem HStart.form {n : Nat} {M0 M : Nat → Nat → Int} (h : HStart n n M0 M) : FormOf n M0 M := ⟨h.like, h.done⟩
end Go.Proofs.YtijlhdgagaehaaaDoor
