/- The identity behind fraction-free elimination, in plain Lean. -/
import Derived.Test.YtkelnkcigbghkaaAlg
namespace Go.Proofs.Ytkelnkcigbghkaa
set_option linter.unusedVariables false
set_option linter.unusedSimpArgs false

theorem pw_sq (c : Nat) : pw (-1) c * pw (-1) c = 1 := by
  induction c with
  | zero => rfl
  | succ n ih => rw [pw]; grind
theorem sumTo_only (f : Nat → Int) (c : Nat) (h : ∀ k, k < c → f k = 0) : sumTo f (c + 1) = f c := by
  rw [sumTo, show sumTo f c = 0 from by rw [sumTo_congr (g := fun _ => 0) h, sumTo_zero]]
  omega
/-- by the last row, where all but its last number is 0 -/
theorem G_last (c : Nat) (Y : Nat → Nat → Int) (h : ∀ b, b < c → Y c b = 0) : G (-1) (c + 1) Y = Y c c * G (-1) c Y := by
  rw [G_row (-1) (by decide) c c Y (by omega), sumTo_only _ c (fun k hk => by rw [h k hk]; grind)]
  have e : G (-1) c (minor Y c c) = G (-1) c Y := G_congr _ _ (fun i j hi hj => by simp only [minor, sk, hi, hj, if_true])
  rw [e]
  have := pw_sq c
  grind
/-- adding multiples of the rows before c to row q (which is c or later) -/
theorem G_comb (n c q : Nat) (hc : c ≤ q) (hq : q < n) (M : Nat → Nat → Int) (x : Int) (lam : Nat → Int) : ∀ k, k ≤ c → G (-1) n (setRow M q (fun j => x * M q j + sumTo (fun a => lam a * M a j) k)) = x * G (-1) n M := by
  intro k
  induction k with
  | zero => intro _; simp only [sumTo, Int.add_zero]; exact G_scale (-1) (by decide) n q hq M x
  | succ k ih =>
    intro hk
    have h := G_lin (-1) (by decide) n q hq M 1 (lam k) (fun j => x * M q j + sumTo (fun a => lam a * M a j) k) (M k)
    rw [det_like n q k (setRow M q (M k)) hq (by omega) (by omega) (fun b => by simp only [setRow, if_true]; rw [if_neg (by omega)]), ih (by omega)] at h
    have e : (fun j => 1 * (x * M q j + sumTo (fun a => lam a * M a j) k) + lam k * M k j) = (fun j => x * M q j + sumTo (fun a => lam a * M a j) (k + 1)) := by
      funext j; simp only [sumTo]; omega
    rw [e] at h
    rw [h]; omega
/-- rows and columns before c, and one more of each -/
def bord (c : Nat) (M : Nat → Nat → Int) (i j : Nat) : Nat → Nat → Int := fun a b => M (if a < c then a else i) (if b < c then b else j)
def B (c : Nat) (M : Nat → Nat → Int) (i j : Nat) : Int := G (-1) (c + 1) (bord c M i j)
def lamB (c : Nat) (M : Nat → Nat → Int) (i k : Nat) : Int := pw (-1) c * (pw (-1) k * G (-1) c (minor (bord c M i 0) k c))
theorem G_colLast (c : Nat) (X : Nat → Nat → Int) : G (-1) (c + 1) X = pw (-1) c * sumTo (fun k => pw (-1) k * X k c * G (-1) c (minor X k c)) (c + 1) := by
  rw [← G_flip (-1) (c + 1) X, G_row (-1) (by decide) c c _ (by omega)]
  congr 1
  refine sumTo_congr (fun k hk => ?_)
  rw [← G_flip (-1) c (minor X k c)]
  rfl
theorem B_comb (c : Nat) (M : Nat → Nat → Int) (i j : Nat) : B c M i j = G (-1) c M * M i j + sumTo (fun k => lamB c M i k * M k j) c := by
  unfold B
  rw [G_colLast, sumTo]
  have e1 : G (-1) c (minor (bord c M i j) c c) = G (-1) c M := G_congr _ _ (fun a b ha hb => by simp only [minor, sk, bord, ha, hb, if_true])
  have e2 : bord c M i j c c = M i j := by simp [bord]
  have e3 : sumTo (fun k => pw (-1) k * bord c M i j k c * G (-1) c (minor (bord c M i j) k c)) c = sumTo (fun k => pw (-1) c * (lamB c M i k * M k j)) c := by
    refine sumTo_congr (fun k hk => ?_)
    have e4 : G (-1) c (minor (bord c M i j) k c) = G (-1) c (minor (bord c M i 0) k c) := G_congr _ _ (fun a b ha hb => by
      have : sk c b < c := by unfold sk; rw [if_pos hb]; exact hb
      simp only [minor, bord, this, if_true])
    have e5 : bord c M i j k c = M k j := by simp [bord, hk]
    rw [e4, e5]
    unfold lamB
    have := pw_sq c
    grind
  rw [e1, e2, e3, sumTo_mul]
  have := pw_sq c
  grind
theorem B_zero (c : Nat) (M : Nat → Nat → Int) (i j : Nat) (h : j < c) : B c M i j = 0 := by
  unfold B
  rw [← G_flip]
  exact det_like (c + 1) c j _ (by omega) (by omega) (by omega) (fun b => by simp [bord, h])
theorem G_two_last (c : Nat) (Y : Nat → Nat → Int) (h1 : ∀ b, b < c → Y c b = 0) (h2 : ∀ b, b < c → Y (c + 1) b = 0) :
    G (-1) (c + 2) Y = G (-1) c Y * (Y c c * Y (c + 1) (c + 1) - Y c (c + 1) * Y (c + 1) c) := by
  rw [G_row (-1) (by decide) (c + 1) (c + 1) Y (by omega), sumTo, sumTo_only _ c (fun k hk => by rw [h2 k hk]; grind)]
  have e1 : G (-1) (c + 1) (minor Y (c + 1) (c + 1)) = Y c c * G (-1) c Y := by
    rw [G_last c _ (fun b hb => by
      have r : sk (c + 1) c = c := by unfold sk; rw [if_pos (by omega)]
      have q : sk (c + 1) b = b := by unfold sk; rw [if_pos (by omega)]
      simp only [minor, r, q]; exact h1 b hb)]
    have r : sk (c + 1) c = c := by unfold sk; rw [if_pos (by omega)]
    have e : G (-1) c (minor Y (c + 1) (c + 1)) = G (-1) c Y := G_congr _ _ (fun a b ha hb => by
      have q1 : sk (c + 1) a = a := by unfold sk; rw [if_pos (by omega)]
      have q2 : sk (c + 1) b = b := by unfold sk; rw [if_pos (by omega)]
      simp only [minor, q1, q2])
    rw [e]; simp only [minor, r]
  have e2 : G (-1) (c + 1) (minor Y (c + 1) c) = Y c (c + 1) * G (-1) c Y := by
    have r : sk (c + 1) c = c := by unfold sk; rw [if_pos (by omega)]
    rw [G_last c _ (fun b hb => by
      have q : sk c b = b := by unfold sk; rw [if_pos hb]
      simp only [minor, r, q]; exact h1 b hb)]
    have r2 : sk c c = c + 1 := by unfold sk; rw [if_neg (by omega)]
    have e : G (-1) c (minor Y (c + 1) c) = G (-1) c Y := G_congr _ _ (fun a b ha hb => by
      have q1 : sk (c + 1) a = a := by unfold sk; rw [if_pos (by omega)]
      have q2 : sk c b = b := by unfold sk; rw [if_pos hb]
      simp only [minor, q1, q2])
    rw [e]; simp only [minor, r, r2]
  rw [e1, e2]
  have := pw_sq c
  simp only [pw]
  generalize pw (-1) c = z at *
  generalize G (-1) c Y = g at *
  generalize Y c c = y1 at *
  generalize Y c (c + 1) = y2 at *
  generalize Y (c + 1) c = y3 at *
  generalize Y (c + 1) (c + 1) = y4 at *
  grind
/-- the identity (Jacobi; Sylvester): the division is exact -/
theorem B_step (c : Nat) (M : Nat → Nat → Int) (i j : Nat) (hp : G (-1) c M ≠ 0) : B c M i j * B c M c c - B c M i c * B c M c j = G (-1) c M * B (c + 1) M i j := by
  obtain ⟨X, hX⟩ : ∃ X, X = bord (c + 1) M i j := ⟨_, rfl⟩
  obtain ⟨col, hcol⟩ : ∃ col : Nat → Nat, col = fun b => if b < c + 1 then b else j := ⟨_, rfl⟩
  have x1 : ∀ a b, a < c + 1 → X a b = M a (col b) := by intro a b ha; rw [hX, hcol]; simp only [bord, ha, if_true]
  have x2 : ∀ b, X (c + 1) b = M i (col b) := by intro b; rw [hX, hcol]; simp [bord]
  have rc : (fun b => B c M c (col b)) = fun b => G (-1) c M * X c b + sumTo (fun a => lamB c M c a * X a b) c := by
    funext b
    rw [B_comb, x1 c b (by omega)]
    congr 1
    exact sumTo_congr (fun k hk => by rw [x1 k b (by omega)])
  obtain ⟨Z, hZ⟩ : ∃ Z, Z = setRow X c (fun b => B c M c (col b)) := ⟨_, rfl⟩
  have z1 : ∀ a b, a < c → Z a b = X a b := by intro a b ha; rw [hZ]; simp only [setRow]; rw [if_neg (by omega)]
  have z2 : ∀ b, Z (c + 1) b = X (c + 1) b := by intro b; rw [hZ]; simp only [setRow]; rw [if_neg (by omega)]
  have z3 : ∀ b, Z c b = B c M c (col b) := by intro b; rw [hZ]; simp only [setRow, if_true]
  have gz : G (-1) (c + 2) Z = G (-1) c M * G (-1) (c + 2) X := by
    rw [hZ, rc]; exact G_comb (c + 2) c c (by omega) (by omega) X _ _ c (by omega)
  have ri : (fun b => B c M i (col b)) = fun b => G (-1) c M * Z (c + 1) b + sumTo (fun a => lamB c M i a * Z a b) c := by
    funext b
    rw [B_comb, z2, x2]
    congr 1
    exact sumTo_congr (fun k hk => by rw [z1 k b hk, x1 k b (by omega)])
  obtain ⟨Y, hY⟩ : ∃ Y, Y = setRow Z (c + 1) (fun b => B c M i (col b)) := ⟨_, rfl⟩
  have gy : G (-1) (c + 2) Y = G (-1) c M * G (-1) (c + 2) Z := by
    rw [hY, ri]; exact G_comb (c + 2) c (c + 1) (by omega) (by omega) Z _ _ c (by omega)
  have y1 : ∀ b, Y c b = B c M c (col b) := by intro b; rw [hY, ← z3]; simp only [setRow]; rw [if_neg (by omega)]
  have y2 : ∀ b, Y (c + 1) b = B c M i (col b) := by intro b; rw [hY]; simp only [setRow, if_true]
  have c1 : ∀ b, b < c + 1 → col b = b := by intro b hb; rw [hcol]; simp only [hb, if_true]
  have c2 : col (c + 1) = j := by rw [hcol]; simp
  have key := G_two_last c Y (fun b hb => by rw [y1, c1 b (by omega)]; exact B_zero c M c b hb) (fun b hb => by rw [y2, c1 b (by omega)]; exact B_zero c M i b hb)
  rw [y1, y1, y2, y2, c1 c (by omega), c2, gy, gz] at key
  have e : G (-1) c Y = G (-1) c M := G_congr _ _ (fun a b ha hb => by
    have : Y a b = Z a b := by rw [hY]; simp only [setRow]; rw [if_neg (by omega)]
    rw [this, z1 a b ha, x1 a b (by omega), c1 b (by omega)])
  have e3 : G (-1) (c + 2) X = B (c + 1) M i j := by rw [hX]; rfl
  rw [e, e3] at key
  have := Int.eq_of_mul_eq_mul_left hp key
  rw [this, Int.mul_comm (B c M c c), Int.mul_comm (B c M c j)]
theorem B_flip (c : Nat) (M : Nat → Nat → Int) (i j : Nat) : B c (fun a b => M b a) i j = B c M j i := by
  unfold B
  rw [← G_flip (-1) (c + 1) (bord c M j i)]
  rfl
theorem B_lead (c : Nat) (M : Nat → Nat → Int) : B c M c c = G (-1) (c + 1) M := by
  unfold B
  refine G_congr _ _ (fun a b ha hb => ?_)
  have e1 : (if a < c then a else c) = a := by split <;> omega
  have e2 : (if b < c then b else c) = b := by split <;> omega
  simp only [bord, e1, e2]
theorem B_0 (M : Nat → Nat → Int) (i j : Nat) : B 0 M i j = M i j := by
  rw [B_comb]; simp [sumTo, G]
theorem G_row0 (n q : Nat) (hq : q < n) (M : Nat → Nat → Int) (h : ∀ b, b < n → M q b = 0) : G (-1) n M = 0 := by
  obtain ⟨m, rfl⟩ : ∃ m, n = m + 1 := ⟨n - 1, by omega⟩
  rw [G_row (-1) (by decide) q m M hq, sumTo_congr (g := fun _ => 0) (fun k hk => by rw [h k hk]; grind), sumTo_zero]
  omega
/-- a column of zeros from c on: the determinant is 0 -/
theorem B_stop (n c : Nat) (M : Nat → Nat → Int) (hc : c < n) (hp : G (-1) c M ≠ 0) (h : ∀ k, c ≤ k → k < n → B c M k c = 0) : G (-1) n M = 0 := by
  obtain ⟨T, hT⟩ : ∃ T : Nat → Nat → Int, T = fun a b => M b a := ⟨_, rfl⟩
  have e1 : G (-1) n T = G (-1) n M := by rw [hT]; exact G_flip _ _ _
  have e2 : G (-1) c T = G (-1) c M := by rw [hT]; exact G_flip _ _ _
  have key := G_comb n c c (by omega) hc T (G (-1) c T) (lamB c T c) c (by omega)
  rw [G_row0 n c hc _ (fun b hb => by
    simp only [setRow, if_true]
    rw [← B_comb, hT, B_flip]
    by_cases hbc : b < c
    · rw [← B_flip]; exact B_zero c _ c b hbc
    · exact h b (by omega) hb), e1, e2] at key
  rcases Int.mul_eq_zero.1 key.symm with h | h
  · exact absurd h hp
  · exact h
/-- two rows exchanged, both from c on -/
theorem B_swap (c : Nat) (M : Nat → Nat → Int) (p q i j : Nat) (hp : c ≤ p) (hq : c ≤ q) (hi : c ≤ i) : B c (swapR M p q) i j = B c M (if i = p then q else if i = q then p else i) j := by
  unfold B
  refine G_congr _ _ (fun a b ha hb => ?_)
  simp only [bord, swapR]
  by_cases h : a < c
  · rw [if_pos h, if_pos h, if_neg (by omega), if_neg (by omega)]
  · rw [if_neg h, if_neg h]
theorem lead_swap (c : Nat) (M : Nat → Nat → Int) (p q : Nat) (hp : c ≤ p) (hq : c ≤ q) : G (-1) c (swapR M p q) = G (-1) c M := by
  refine G_congr _ _ (fun a b ha hb => ?_)
  simp only [swapR]
  rw [if_neg (by omega), if_neg (by omega)]
end Go.Proofs.Ytkelnkcigbghkaa
