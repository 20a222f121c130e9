/- Plain law: determinants and permanents by the same sums: the expansion by any row, turned, exchanged, added. No program in sight. -/
import Derived.Test.YtghgekimeglogaaDoorBase
namespace Go.Proofs.YtghgekimeglogaaDoor
open Go.RowKit
set_option linter.unusedVariables false
set_option linter.unusedSimpArgs false

theorem sumTo_head (f : Nat → Int) (n : Nat) : sumTo f (n + 1) = f 0 + sumTo (fun i => f (i + 1)) n := by
  induction n with
  | zero => simp [sumTo]
  | succ n ih => rw [sumTo, ih, sumTo]; omega
theorem sumTo_add (f g : Nat → Int) (n : Nat) : sumTo (fun i => f i + g i) n = sumTo f n + sumTo g n := by
  induction n with
  | zero => rfl
  | succ n ih => rw [sumTo, ih, sumTo, sumTo]; omega
theorem sumTo_sub (f g : Nat → Int) (n : Nat) : sumTo (fun i => f i - g i) n = sumTo f n - sumTo g n := by
  induction n with
  | zero => rfl
  | succ n ih => rw [sumTo, ih, sumTo, sumTo]; omega
theorem sumTo_mul (c : Int) (f : Nat → Int) (n : Nat) : sumTo (fun i => c * f i) n = c * sumTo f n := by
  induction n with
  | zero => simp [sumTo]
  | succ n ih => rw [sumTo, ih, sumTo, Int.mul_add]
theorem sumTo_zero (n : Nat) : sumTo (fun _ => 0) n = 0 := by
  induction n with
  | zero => rfl
  | succ n ih => rw [sumTo, ih]; rfl
theorem sumTo_swap (f : Nat → Nat → Int) (n m : Nat) : sumTo (fun i => sumTo (fun j => f i j) m) n = sumTo (fun j => sumTo (fun i => f i j) n) m := by
  induction n with
  | zero => simp only [sumTo]; rw [sumTo_zero]
  | succ n ih => rw [sumTo, ih]; simp only [sumTo]; rw [sumTo_add]

/-- the k-th place when place j is left out -/
def sk (j k : Nat) : Nat := if k < j then k else k + 1
/-- all places but one -/
theorem sumTo_skip (f : Nat → Int) (n j : Nat) (hj : j < n + 1) : sumTo (fun k => f (sk j k)) n = sumTo f (n + 1) - f j := by
  induction n generalizing j with
  | zero => obtain rfl : j = 0 := by omega
            simp [sumTo]
  | succ n ih =>
    rw [sumTo]
    by_cases h : j < n + 1
    · have e : sumTo f (n + 1 + 1) = sumTo f (n + 1) + f (n + 1) := rfl
      rw [ih j h, e, show sk j n = n + 1 from by unfold sk; rw [if_neg (by omega)]]
      omega
    · obtain rfl : j = n + 1 := by omega
      rw [sumTo_congr (g := f) (fun k hk => by show f (sk (n + 1) k) = f k; unfold sk; rw [if_pos (by omega)]), show sk (n + 1) n = n from by unfold sk; rw [if_pos (by omega)]]
      rw [sumTo, sumTo]
      omega
/-- the ordered pairs of unlike places, the other way round -/
theorem pairs_swap (F : Nat → Nat → Int) (n : Nat) : sumTo (fun j => sumTo (fun k => F j (sk j k)) n) (n + 1) = sumTo (fun j => sumTo (fun k => F (sk j k) j) n) (n + 1) := by
  rw [sumTo_congr (g := fun j => sumTo (fun q => F j q) (n + 1) - F j j) (fun j hj => sumTo_skip (fun q => F j q) n j hj)]
  rw [sumTo_congr (f := fun j => sumTo (fun k => F (sk j k) j) n) (g := fun j => sumTo (fun q => F q j) (n + 1) - F j j) (fun j hj => sumTo_skip (fun q => F q j) n j hj)]
  rw [sumTo_sub, sumTo_sub, sumTo_swap]

/-- the matrix without row r and column c -/
def minor (M : Nat → Nat → Int) (r c : Nat) : Nat → Nat → Int := fun a b => M (sk r a) (sk c b)
def pw (s : Int) : Nat → Int
  | 0 => 1
  | n + 1 => s * pw s n
/-- s = 1: the permanent; s = -1: the determinant -/
def G (s : Int) : Nat → (Nat → Nat → Int) → Int
  | 0, _ => 1
  | n + 1, M => sumTo (fun j => pw s j * M 0 j * G s n (minor M 0 j)) (n + 1)

theorem G_congr (s : Int) (n : Nat) : ∀ {M N : Nat → Nat → Int}, (∀ i j, i < n → j < n → M i j = N i j) → G s n M = G s n N := by
  induction n with
  | zero => intro M N _; rfl
  | succ n ih =>
    intro M N h
    rw [G, G]
    refine sumTo_congr fun j hj => ?_
    rw [h 0 j (by omega) hj, ih (M := minor M 0 j) (N := minor N 0 j)]
    intro a b ha hb
    exact h _ _ (by unfold sk; split <;> omega) (by unfold sk; split <;> omega)

/-- two rows and two columns left out -/
def del2 (r p q : Nat) (M : Nat → Nat → Int) : Nat → Nat → Int := fun a b => M (sk 0 (sk r a)) (if b < p ∧ b < q then b else if b + 1 < p ∨ b + 1 < q then b + 1 else b + 2)
theorem minor_minor1 (M : Nat → Nat → Int) (i j k : Nat) : minor (minor M 0 j) i k = del2 i j (sk j k) M := by
  funext a b
  simp only [minor, del2]
  congr 1
  unfold sk
  split <;> split <;> (repeat' split) <;> omega
theorem minor_minor2 (M : Nat → Nat → Int) (i q l : Nat) : minor (minor M (i + 1) q) 0 l = del2 i q (sk q l) M := by
  funext a b
  simp only [minor, del2]
  congr 1
  · unfold sk; (repeat' split) <;> omega
  · unfold sk; (repeat' split) <;> omega
theorem del2_comm (r p q : Nat) (M : Nat → Nat → Int) : del2 r p q M = del2 r q p M := by
  funext a b
  simp only [del2]
  congr 1
  (repeat' split) <;> omega

/-- the sign of an ordered pair -/
def sg2 (s : Int) (p q : Nat) : Int := pw s p * pw s (if q < p then q else q - 1)
theorem sg2_sk (s : Int) (j k : Nat) : sg2 s j (sk j k) = pw s j * pw s k := by
  unfold sg2 sk
  by_cases h : k < j
  · rw [if_pos h, if_pos h]
  · rw [if_neg h, if_neg (by omega), Nat.add_sub_cancel]
theorem pw_pred (s : Int) (hs : s * s = 1) (n : Nat) (h : 0 < n) : pw s (n - 1) = s * pw s n := by
  obtain ⟨m, rfl⟩ : ∃ m, n = m + 1 := ⟨n - 1, by omega⟩
  rw [Nat.add_sub_cancel, pw, ← Int.mul_assoc, hs, Int.one_mul]
theorem sg2_comm (s : Int) (hs : s * s = 1) (p q : Nat) (h : p ≠ q) : sg2 s q p = s * sg2 s p q := by
  unfold sg2
  rcases Nat.lt_or_gt_of_ne h with h | h
  · rw [if_pos h, if_neg (by omega), pw_pred s hs q (by omega)]
    generalize pw s p = x
    generalize pw s q = y
    have : s * (x * (s * y)) = (s * s) * (y * x) := by grind
    rw [this, hs, Int.one_mul]
  · rw [if_neg (by omega), if_pos h, pw_pred s hs p (by omega)]
    generalize pw s p = x
    generalize pw s q = y
    grind

theorem sk_ne (j k : Nat) : sk j k ≠ j := by unfold sk; split <;> omega

/-- one term of both expansions at once -/
def two (s : Int) (n i : Nat) (M : Nat → Nat → Int) (p q : Nat) : Int := sg2 s p q * M 0 p * M (i + 1) q * G s n (del2 i p q M)
/-- both expansions at once: by row 0 and row i + 1 -/
theorem G_two (s : Int) (hs : s * s = 1) (n i : Nat) (M : Nat → Nat → Int)
    (h : ∀ j, G s (n + 1) (minor M 0 j) = pw s i * sumTo (fun k => pw s k * minor M 0 j i k * G s n (minor (minor M 0 j) i k)) (n + 1)) :
    G s (n + 2) M = pw s i * sumTo (fun j => sumTo (fun k => two s n i M j (sk j k)) (n + 1)) (n + 2) := by
  rw [G, ← sumTo_mul]
  refine sumTo_congr fun j hj => ?_
  rw [h j]
  have e : pw s j * M 0 j * (pw s i * sumTo (fun k => pw s k * minor M 0 j i k * G s n (minor (minor M 0 j) i k)) (n + 1)) = pw s i * (pw s j * M 0 j * sumTo (fun k => pw s k * minor M 0 j i k * G s n (minor (minor M 0 j) i k)) (n + 1)) := by grind
  rw [e, ← sumTo_mul]
  congr 1
  refine sumTo_congr fun k hk => ?_
  unfold two
  rw [sg2_sk, minor_minor1]
  have e2 : minor M 0 j i k = M (i + 1) (sk j k) := by simp [minor, sk]
  rw [e2]
  grind

/-- the expansion by any row -/
theorem G_row (s : Int) (hs : s * s = 1) (i : Nat) : ∀ (n : Nat) (M : Nat → Nat → Int), i < n + 1 → G s (n + 1) M = pw s i * sumTo (fun j => pw s j * M i j * G s n (minor M i j)) (n + 1) := by
  induction i with
  | zero => intro n M _; rw [G, pw, Int.one_mul]
  | succ i ih =>
    intro n M hi
    obtain ⟨m, rfl⟩ : ∃ m, n = m + 1 := ⟨n - 1, by omega⟩
    rw [G_two s hs m i M (fun j => ih m (minor M 0 j) (by omega)), pairs_swap (two s m i M), pw]
    rw [Int.mul_comm s (pw s i), Int.mul_assoc]
    congr 1
    rw [← sumTo_mul]
    refine sumTo_congr fun q hq => ?_
    rw [G]
    have e : s * (pw s q * M (i + 1) q * sumTo (fun l => pw s l * minor M (i + 1) q 0 l * G s m (minor (minor M (i + 1) q) 0 l)) (m + 1)) = (s * pw s q * M (i + 1) q) * sumTo (fun l => pw s l * minor M (i + 1) q 0 l * G s m (minor (minor M (i + 1) q) 0 l)) (m + 1) := by grind
    rw [e, ← sumTo_mul]
    refine sumTo_congr fun l hl => ?_
    show sg2 s (sk q l) q * M 0 (sk q l) * M (i + 1) q * G s m (del2 i (sk q l) q M) = _
    rw [sg2_comm s hs q (sk q l) (fun h => sk_ne q l h.symm), sg2_sk, del2_comm, minor_minor2]
    have e2 : minor M (i + 1) q 0 l = M 0 (sk q l) := by simp [minor, sk]
    rw [e2]
    grind

/-- the expansion by the first column -/
theorem G_col0 (s : Int) (n : Nat) : ∀ (M : Nat → Nat → Int), G s (n + 1) M = sumTo (fun i => pw s i * M i 0 * G s n (minor M i 0)) (n + 1) := by
  induction n with
  | zero => intro M; simp [G, sumTo]
  | succ n ih =>
    intro M
    rw [G, sumTo_head _ (n + 1), sumTo_head (fun i => pw s i * M i 0 * G s (n + 1) (minor M i 0)) (n + 1)]
    congr 1
    rw [sumTo_congr (g := fun j => sumTo (fun i => (pw s (j + 1) * M 0 (j + 1)) * (pw s i * M (i + 1) 0 * G s n (minor (minor M 0 (j + 1)) i 0))) (n + 1)) (fun j hj => ?_)]
    rw [sumTo_congr (f := fun i => pw s (i + 1) * M (i + 1) 0 * G s (n + 1) (minor M (i + 1) 0)) (g := fun i => sumTo (fun j => (pw s (i + 1) * M (i + 1) 0) * (pw s j * M 0 (j + 1) * G s n (minor (minor M (i + 1) 0) 0 j))) (n + 1)) (fun i hi => ?_)]
    · rw [sumTo_swap]
      refine sumTo_congr fun i hi => sumTo_congr fun j hj => ?_
      have e : minor (minor M 0 (j + 1)) i 0 = minor (minor M (i + 1) 0) 0 j := by
        funext a b
        simp only [minor]
        congr 1 <;> (unfold sk; (repeat' split) <;> omega)
      rw [e, pw, pw]
      grind
    · rw [G, ← sumTo_mul]
      refine sumTo_congr fun j hj => ?_
      have e : minor M (i + 1) 0 0 j = M 0 (j + 1) := by simp [minor, sk]
      rw [e]
    · rw [ih, ← sumTo_mul]
      refine sumTo_congr fun i hi => ?_
      have e : minor M 0 (j + 1) i 0 = M (i + 1) 0 := by simp [minor, sk]
      rw [e]

/-- turned it is the same -/
theorem G_flip (s : Int) (n : Nat) : ∀ (M : Nat → Nat → Int), G s n (fun i j => M j i) = G s n M := by
  induction n with
  | zero => intro M; rfl
  | succ n ih =>
    intro M
    rw [G_col0 s n M, G]
    refine sumTo_congr fun j hj => ?_
    have : minor (fun i j => M j i) 0 j = fun i k => (minor M j 0) k i := rfl
    rw [this, ih (minor M j 0)]

/-- row i replaced -/
def setRow (M : Nat → Nat → Int) (i : Nat) (r : Nat → Int) : Nat → Nat → Int := fun a b => if a = i then r b else M a b
theorem minor_setRow (M : Nat → Nat → Int) (i : Nat) (r : Nat → Int) (j : Nat) : minor (setRow M i r) i j = minor M i j := by
  funext a b
  simp only [minor, setRow]
  rw [if_neg (sk_ne i a)]
/-- the value hangs on row i so -/
theorem G_setRow (s : Int) (hs : s * s = 1) (n i : Nat) (hi : i < n + 1) (M : Nat → Nat → Int) (r : Nat → Int) : G s (n + 1) (setRow M i r) = pw s i * sumTo (fun j => pw s j * r j * G s n (minor M i j)) (n + 1) := by
  rw [G_row s hs i n _ hi]
  congr 1
  refine sumTo_congr fun j hj => ?_
  rw [minor_setRow]
  simp [setRow]
theorem setRow_self (M : Nat → Nat → Int) (i : Nat) : setRow M i (M i) = M := by
  funext a b
  simp only [setRow]
  split
  · rename_i h; rw [h]
  · rfl
theorem G_lin (s : Int) (hs : s * s = 1) (n i : Nat) (hi : i < n) (M : Nat → Nat → Int) (x y : Int) (r t : Nat → Int) : G s n (setRow M i (fun j => x * r j + y * t j)) = x * G s n (setRow M i r) + y * G s n (setRow M i t) := by
  obtain ⟨m, rfl⟩ : ∃ m, n = m + 1 := ⟨n - 1, by omega⟩
  rw [G_setRow s hs m i hi, G_setRow s hs m i hi, G_setRow s hs m i hi]
  have e : x * (pw s i * sumTo (fun j => pw s j * r j * G s m (minor M i j)) (m + 1)) + y * (pw s i * sumTo (fun j => pw s j * t j * G s m (minor M i j)) (m + 1)) = pw s i * (x * sumTo (fun j => pw s j * r j * G s m (minor M i j)) (m + 1) + y * sumTo (fun j => pw s j * t j * G s m (minor M i j)) (m + 1)) := by grind
  rw [e]
  congr 1
  rw [← sumTo_mul, ← sumTo_mul, ← sumTo_add]
  refine sumTo_congr fun j hj => ?_
  grind
theorem G_scale (s : Int) (hs : s * s = 1) (n i : Nat) (hi : i < n) (M : Nat → Nat → Int) (x : Int) : G s n (setRow M i (fun j => x * M i j)) = x * G s n M := by
  have := G_lin s hs n i hi M x 0 (M i) (M i)
  rw [setRow_self] at this
  simp only [Int.zero_mul, Int.add_zero] at this
  exact this

/-- rows p and q exchanged -/
def swapR (M : Nat → Nat → Int) (p q : Nat) : Nat → Nat → Int := fun a b => M (if a = p then q else if a = q then p else a) b
theorem G_swap0 (s : Int) (hs : s * s = 1) (n i : Nat) (hi : i < n + 1) (M : Nat → Nat → Int) : G s (n + 2) (swapR M 0 (i + 1)) = s * G s (n + 2) M := by
  rw [G_two s hs n i M (fun j => G_row s hs i n (minor M 0 j) hi), G_two s hs n i (swapR M 0 (i + 1)) (fun j => G_row s hs i n (minor (swapR M 0 (i + 1)) 0 j) hi), pairs_swap (two s n i (swapR M 0 (i + 1)))]
  rw [Int.mul_comm s, Int.mul_assoc]
  congr 1
  rw [Int.mul_comm, ← sumTo_mul]
  refine sumTo_congr fun j hj => ?_
  rw [← sumTo_mul]
  refine sumTo_congr fun k hk => ?_
  show sg2 s (sk j k) j * swapR M 0 (i + 1) 0 (sk j k) * swapR M 0 (i + 1) (i + 1) j * G s n (del2 i (sk j k) j (swapR M 0 (i + 1))) = s * (sg2 s j (sk j k) * M 0 j * M (i + 1) (sk j k) * G s n (del2 i j (sk j k) M))
  have e1 : swapR M 0 (i + 1) 0 (sk j k) = M (i + 1) (sk j k) := by simp [swapR]
  have e2 : swapR M 0 (i + 1) (i + 1) j = M 0 j := by simp [swapR]
  have e3 : del2 i (sk j k) j (swapR M 0 (i + 1)) = del2 i j (sk j k) M := by
    rw [del2_comm]
    funext a b
    simp only [del2, swapR]
    rw [if_neg (by unfold sk; (repeat' split) <;> omega), if_neg (by unfold sk; (repeat' split) <;> omega)]
  rw [e1, e2, e3, sg2_comm s hs j (sk j k) (fun h => sk_ne j k h.symm)]
  grind
theorem G_swap (s : Int) (hs : s * s = 1) (p : Nat) : ∀ (n q : Nat) (M : Nat → Nat → Int), p < q → q < n → G s n (swapR M p q) = s * G s n M := by
  induction p with
  | zero =>
    intro n q M hp hq
    obtain ⟨i, rfl⟩ : ∃ i, q = i + 1 := ⟨q - 1, by omega⟩
    obtain ⟨m, rfl⟩ : ∃ m, n = m + 2 := ⟨n - 2, by omega⟩
    exact G_swap0 s hs m i (by omega) M
  | succ p ih =>
    intro n q M hp hq
    obtain ⟨i, rfl⟩ : ∃ i, q = i + 1 := ⟨q - 1, by omega⟩
    obtain ⟨m, rfl⟩ : ∃ m, n = m + 1 := ⟨n - 1, by omega⟩
    rw [G, G, ← sumTo_mul]
    refine sumTo_congr fun j hj => ?_
    have e : minor (swapR M (p + 1) (i + 1)) 0 j = swapR (minor M 0 j) p i := by
      funext a b
      simp only [minor, swapR]
      congr 1
      unfold sk
      (repeat' split) <;> omega
    rw [e, ih m i (minor M 0 j) (by omega) (by omega)]
    have e2 : swapR M (p + 1) (i + 1) 0 j = M 0 j := by simp [swapR]
    rw [e2]
    grind
theorem swapR_comm (M : Nat → Nat → Int) (p q : Nat) : swapR M p q = swapR M q p := by
  funext a b
  simp only [swapR]
  congr 1
  (repeat' split) <;> omega
theorem swapR_same (M : Nat → Nat → Int) (p : Nat) : swapR M p p = M := by
  funext a b
  simp only [swapR]
  split
  · rename_i h; rw [h]
  · rfl
theorem G_swap' (s : Int) (hs : s * s = 1) (n p q : Nat) (M : Nat → Nat → Int) (hp : p < n) (hq : q < n) (hpq : p ≠ q) : G s n (swapR M p q) = s * G s n M := by
  rcases Nat.lt_or_gt_of_ne hpq with h | h
  · exact G_swap s hs p n q M h hq
  · rw [swapR_comm]; exact G_swap s hs q n p M h hp

/-- the determinant: two like rows -/
theorem det_like (n p q : Nat) (M : Nat → Nat → Int) (hp : p < n) (hq : q < n) (hpq : p ≠ q) (h : ∀ b, M p b = M q b) : G (-1) n M = 0 := by
  have := G_swap' (-1) (by decide) n p q M hp hq hpq
  have e : swapR M p q = M := by
    funext a b
    simp only [swapR]
    split
    · rename_i g; rw [g, h]
    · split
      · rename_i g; rw [g, h]
      · rfl
  rw [e] at this
  omega
/-- so many times one row added to another one -/
theorem det_add (n i j : Nat) (M : Nat → Nat → Int) (k : Int) (hi : i < n) (hj : j < n) (hij : i ≠ j) : G (-1) n (setRow M i (fun b => M i b + k * M j b)) = G (-1) n M := by
  have h := G_lin (-1) (by decide) n i hi M 1 k (M i) (M j)
  rw [setRow_self, det_like n i j (setRow M i (M j)) hi hj hij (fun b => by simp only [setRow, if_true]; rw [if_neg (fun h => hij h.symm)])] at h
  simp only [Int.one_mul, Int.mul_zero, Int.add_zero] at h
  exact h

/-- a list of rows as a matrix -/
def fn (rows : List (List Int)) : Nat → Nat → Int := fun i j => (rows.getD i []).getD j 0
theorem fn_cut (rows : List (List Int)) (i j : Nat) : fn (cut rows i j) = minor (fn rows) i j := by
  funext a b
  simp only [fn, minor]
  rw [getD_cut, getD_eraseIdx]
  rfl
theorem sgn_pw (j : Nat) : sgn j = pw (-1) j := by
  induction j with
  | zero => rfl
  | succ j ih => rw [sgn_succ, pw, ih]; omega
theorem pw_one (j : Nat) : pw 1 j = 1 := by
  induction j with
  | zero => rfl
  | succ j ih => rw [pw, ih]; rfl
theorem detN_G (n : Nat) : ∀ (rows : List (List Int)), detN n rows = G (-1) n (fn rows) := by
  induction n with
  | zero => intro rows; rfl
  | succ n ih =>
    intro rows
    rw [detN, G]
    refine sumTo_congr fun j hj => ?_
    rw [ih, fn_cut, sgn_pw]
    rfl
theorem permN_G (n : Nat) : ∀ (rows : List (List Int)), permN n rows = G 1 n (fn rows) := by
  induction n with
  | zero => intro rows; rfl
  | succ n ih =>
    intro rows
    rw [permN, G]
    refine sumTo_congr fun j hj => ?_
    rw [ih, fn_cut, pw_one, Int.one_mul]
    rfl
theorem fn_set (rows : List (List Int)) (i : Nat) (r : List Int) (hi : i < rows.length) : fn (rows.set i r) = setRow (fn rows) i (fun b => r.getD b 0) := by
  funext a b
  simp only [fn, setRow]
  by_cases h : a = i
  · subst h
    rw [if_pos rfl]
    simp [List.getD, hi]
  · rw [if_neg h]
    simp [List.getD, List.getElem?_set_ne (fun e => h e.symm)]
/-- turned -/
theorem fn_flip (rows : List (List Int)) (n m : Nat) : ∀ i j, i < m → j < n → fn ((List.range m).map fun j => (List.range n).map fun i => (rows.getD i []).getD j 0) i j = fn rows j i := by
  intro i j hi hj
  simp [fn, List.getD, hi, hj]
end Go.Proofs.YtghgekimeglogaaDoor
