/- Plain law: Laplacian matrices: all cofactors are the same; deletion and contraction. No program in sight. -/
import Derived.Test.YtabenflchnobmaaDoorTreeMath
namespace Go.Proofs.YtabenflchnobmaaDoor
open Go.RowKit
set_option linter.unusedVariables false
set_option linter.unusedSimpArgs false

/-- the arrangements of all points but one that come of the natural one by putting the one that is missing in another one's place -/
inductive Arr (m : Nat) : (Nat → Nat) → Nat → Prop
  | nat : Arr m (fun i => i + 1) 0
  | move {f : Nat → Nat} {v : Nat} (i : Nat) (hi : i < m) (h : Arr m f v) : Arr m (fun k => if k = i then v else f k) (f i)

theorem sumTo_repl (F : Nat → Int) (f : Nat → Nat) (v i : Nat) : ∀ m, i < m → sumTo (fun k => F (if k = i then v else f k)) m = sumTo (fun k => F (f k)) m - F (f i) + F v := by
  intro m
  induction m with
  | zero => intro h; omega
  | succ m ih =>
    intro h
    rw [sumTo, sumTo]
    by_cases h' : i < m
    · rw [ih h', if_neg (by omega)]; omega
    · obtain rfl : i = m := by omega
      rw [if_pos rfl, sumTo_congr (g := fun k => F (f k)) (fun k hk => by rw [if_neg (by omega)])]
      omega
theorem Arr.sum {m : Nat} {f : Nat → Nat} {v : Nat} (h : Arr m f v) (F : Nat → Int) : sumTo (fun k => F (f k)) m + F v = sumTo F (m + 1) := by
  induction h with
  | nat => rw [sumTo_head]; dsimp only; omega
  | move i hi h ih => dsimp only; rw [sumTo_repl F _ _ i m hi]; omega
theorem sumTo_nn {f : Nat → Int} {n : Nat} (h : ∀ i, i < n → 0 ≤ f i) : 0 ≤ sumTo f n := by
  induction n with
  | zero => simp [sumTo]
  | succ n ih => rw [sumTo]; have := ih (fun i hi => h i (by omega)); have := h n (by omega); omega
theorem sumTo_ex {f : Nat → Int} {n : Nat} (h : sumTo f n ≠ 0) : ∃ i, i < n ∧ f i ≠ 0 := by
  induction n with
  | zero => exact absurd rfl h
  | succ n ih =>
    rw [sumTo] at h
    by_cases h1 : f n = 0
    · rw [h1, Int.add_zero] at h
      obtain ⟨i, hi, h2⟩ := ih h
      exact ⟨i, by omega, h2⟩
    · exact ⟨n, by omega, h1⟩
theorem sumTo_one1 {n b : Nat} (hb : b < n) (d : Int) : sumTo (fun q => if q = b then d else 0) n = d := by
  induction n with
  | zero => omega
  | succ n ih =>
    rw [sumTo]
    by_cases h : b < n
    · rw [ih h, if_neg (by omega)]; omega
    · obtain rfl : b = n := by omega
      rw [if_pos rfl, sumTo_congr (g := fun _ => 0) (fun q hq => by rw [if_neg (by omega)]), sumTo_zero]
      omega
/-- each point is the missing one or stands somewhere -/
theorem Arr.has {m : Nat} {f : Nat → Nat} {v : Nat} (h : Arr m f v) {t : Nat} (ht : t < m + 1) : v = t ∨ ∃ l, l < m ∧ f l = t := by
  have hs := h.sum (fun p => if p = t then 1 else 0)
  rw [sumTo_one1 ht] at hs
  by_cases hv : v = t
  · exact Or.inl hv
  · rw [if_neg hv, Int.add_zero] at hs
    obtain ⟨l, hl, h2⟩ := sumTo_ex (f := fun k => if f k = t then (1 : Int) else 0) (n := m) (by rw [hs]; decide)
    refine Or.inr ⟨l, hl, ?_⟩
    by_cases h3 : f l = t
    · exact h3
    · exact absurd (by simp [h3]) h2
theorem Arr.inj {m : Nat} {f : Nat → Nat} {v : Nat} (h : Arr m f v) : (∀ k l, k < m → l < m → f k = f l → k = l) ∧ (∀ k, k < m → f k ≠ v) ∧ (∀ k, k < m → f k < m + 1) ∧ v < m + 1 := by
  induction h with
  | nat => exact ⟨fun k l _ _ h => by dsimp only at h; omega, fun k _ h => by dsimp only at h; omega, fun k hk => by dsimp only; omega, by omega⟩
  | @move f v i hi h ih =>
    obtain ⟨h1, h2, h3, h4⟩ := ih
    refine ⟨fun k l hk hl he => ?_, fun k hk he => ?_, fun k hk => ?_, h3 i hi⟩ <;> dsimp only at *
    · by_cases hki : k = i
      · by_cases hli : l = i
        · omega
        · rw [if_pos hki, if_neg hli] at he; exact absurd he.symm (h2 l hl)
      · by_cases hli : l = i
        · rw [if_neg hki, if_pos hli] at he; exact absurd he (h2 k hk)
        · rw [if_neg hki, if_neg hli] at he; exact h1 k l hk hl he
    · by_cases hki : k = i
      · rw [if_pos hki] at he; exact h2 i hi he.symm
      · rw [if_neg hki] at he; exact hki (h1 k i hk hi he)
    · split
      · exact h4
      · exact h3 k hk

/-- every list of unlike points is such an arrangement -/
theorem Arr.reach {m : Nat} (g : Nat → Nat) (hg : ∀ k l, k < m → l < m → g k = g l → k = l) (hb : ∀ k, k < m → g k < m + 1) : ∀ k, k ≤ m → ∃ f v, Arr m f v ∧ ∀ i, i < k → f i = g i := by
  intro k
  induction k with
  | zero => intro _; exact ⟨_, _, Arr.nat, fun i hi => by omega⟩
  | succ k ih =>
    intro hk
    obtain ⟨f, v, hA, hf⟩ := ih (by omega)
    by_cases he : f k = g k
    · exact ⟨f, v, hA, fun i hi => by
        by_cases hik : i = k
        · rw [hik]; exact he
        · exact hf i (by omega)⟩
    · rcases hA.has (hb k (by omega)) with hv | ⟨l, hl, hfl⟩
      · refine ⟨_, _, Arr.move k (by omega) hA, fun i hi => ?_⟩
        by_cases hik : i = k
        · rw [hik]; simp [hv]
        · simp only [if_neg hik]; exact hf i (by omega)
      · have hlk : ¬ l < k := fun h => by
          have h1 := hf l h
          rw [hfl] at h1
          have := hg k l (by omega) hl h1
          omega
        have hlk2 : l ≠ k := fun h => he (by subst h; exact hfl)
        refine ⟨_, _, Arr.move k (by omega) (Arr.move l hl hA), fun i hi => ?_⟩
        by_cases hik : i = k
        · rw [hik]; simp [hfl]
        · simp only [if_neg hik]
          rw [if_neg (by omega)]
          exact hf i (by omega)

/-- rows and columns that add up to 0 over m + 1 points -/
def ZeroSum (m : Nat) (L : Nat → Nat → Int) : Prop := (∀ q, sumTo (fun p => L p q) (m + 1) = 0) ∧ ∀ p, sumTo (fun q => L p q) (m + 1) = 0

/-- a row that is less than nothing by all others -/
theorem det_negrow {m i : Nat} (hi : i < m) (M : Nat → Nat → Int) : ∀ n, n ≤ m → G (-1) m (setRow M i (fun b => sumTo (fun k => M k b) n)) = if i < n then G (-1) m M else 0 := by
  intro n
  induction n with
  | zero =>
    intro _
    have := G_lin (-1) (by decide) m i hi M 0 0 (M i) (M i)
    simp only [Int.zero_mul, Int.add_zero] at this
    simp only [sumTo]
    rw [this, if_neg (by omega)]
  | succ n ih =>
    intro hn
    have e : setRow M i (fun b => sumTo (fun k => M k b) (n + 1)) = setRow M i (fun b => 1 * sumTo (fun k => M k b) n + 1 * M n b) := by
      funext a b
      simp only [setRow, sumTo, Int.one_mul]
    rw [e, G_lin (-1) (by decide) m i hi M 1 1 (fun b => sumTo (fun k => M k b) n) (M n), ih (by omega), Int.one_mul, Int.one_mul]
    by_cases hin : i < n
    · rw [if_pos hin, if_pos (by omega), det_like m i n (setRow M i (M n)) hi (by omega) (by omega) (fun b => by simp only [setRow, if_true]; rw [if_neg (by omega)])]
      omega
    · rw [if_neg hin]
      by_cases hin2 : i = n
      · rw [if_pos (by omega), ← hin2, setRow_self]; omega
      · rw [if_neg (by omega), det_like m i n (setRow M i (M n)) hi (by omega) (by omega) (fun b => by simp only [setRow, if_true]; rw [if_neg (by omega)])]
        omega

/-- column i replaced -/
def setCol (M : Nat → Nat → Int) (i : Nat) (c : Nat → Int) : Nat → Nat → Int := fun a b => if b = i then c a else M a b
theorem det_negcol {m i : Nat} (hi : i < m) (M : Nat → Nat → Int) : G (-1) m (setCol M i (fun a => sumTo (fun k => M a k) m)) = G (-1) m M := by
  rw [← G_flip]
  have e : (fun a b => setCol M i (fun a => sumTo (fun k => M a k) m) b a) = setRow (fun a b => M b a) i (fun b => sumTo (fun k => (fun a b => M b a) k b) m) := by
    funext a b
    simp only [setCol, setRow]
  rw [e, det_negrow hi _ m (Nat.le_refl _), if_pos hi, G_flip]
theorem G_neg_row {m i : Nat} (hi : i < m) (M : Nat → Nat → Int) : G (-1) m (setRow M i (fun b => -(M i b))) = -(G (-1) m M) := by
  have := G_scale (-1) (by decide) m i hi M (-1)
  rw [show (fun j => -1 * M i j) = (fun b => -(M i b)) from by funext b; omega] at this
  rw [this]; omega
theorem G_neg_col {m i : Nat} (hi : i < m) (M : Nat → Nat → Int) : G (-1) m (setCol M i (fun a => -(M a i))) = -(G (-1) m M) := by
  rw [← G_flip, ← G_flip (-1) m M]
  have e : (fun a b => setCol M i (fun a => -(M a i)) b a) = setRow (fun a b => M b a) i (fun b => -((fun a b => M b a) i b)) := by
    funext a b
    simp only [setCol, setRow]
  rw [e, G_neg_row hi]

/-- THE COFACTORS ARE ALL THE SAME, whatever point is left out, and however the others stand -/
theorem Arr.det {m : Nat} {L : Nat → Nat → Int} (hL : ZeroSum m L) {f : Nat → Nat} {v : Nat} (h : Arr m f v) : G (-1) m (fun i j => L (f i) (f j)) = G (-1) m (fun i j => L (i + 1) (j + 1)) := by
  induction h with
  | nat => rfl
  | @move f v i hi h ih =>
    rw [← ih]
    have hs1 : ∀ q, L v q = -(sumTo (fun k => L (f k) q) m) := fun q => by have := h.sum (fun p => L p q); rw [hL.1 q] at this; omega
    have hs2 : ∀ p, L p v = -(sumTo (fun k => L p (f k)) m) := fun p => by have := h.sum (fun q => L p q); rw [hL.2 p] at this; omega
    -- first the row, then the column
    have e1 : G (-1) m (fun a b => L (if a = i then v else f a) (f b)) = -(G (-1) m (fun a b => L (f a) (f b))) := by
      have h1 := det_negrow hi (fun a b => L (f a) (f b)) m (Nat.le_refl _)
      rw [if_pos hi] at h1
      have h2 := G_neg_row hi (setRow (fun a b => L (f a) (f b)) i (fun b => sumTo (fun k => (fun a b => L (f a) (f b)) k b) m))
      rw [h1] at h2
      rw [← h2]
      congr 1
      funext a b
      simp only [setRow]
      by_cases ha : a = i
      · rw [if_pos ha, if_pos ha, if_pos trivial, hs1]
      · rw [if_neg ha, if_neg ha, if_neg ha]
    have e2 : G (-1) m (fun a b => L (if a = i then v else f a) (if b = i then v else f b)) = -(G (-1) m (fun a b => L (if a = i then v else f a) (f b))) := by
      have h1 := det_negcol hi (fun a b => L (if a = i then v else f a) (f b))
      have h2 := G_neg_col hi (setCol (fun a b => L (if a = i then v else f a) (f b)) i (fun a => sumTo (fun k => (fun a b => L (if a = i then v else f a) (f b)) a k) m))
      rw [h1] at h2
      rw [← h2]
      congr 1
      funext a b
      simp only [setCol]
      by_cases hb : b = i
      · rw [if_pos hb, if_pos hb, if_pos trivial, hs2]
      · rw [if_neg hb, if_neg hb, if_neg hb]
    rw [e2, e1]
    omega
theorem cofactor_any {m : Nat} {L : Nat → Nat → Int} (hL : ZeroSum m L) (g : Nat → Nat) (hg : ∀ k l, k < m → l < m → g k = g l → k = l) (hb : ∀ k, k < m → g k < m + 1) : G (-1) m (fun i j => L (g i) (g j)) = G (-1) m (fun i j => L (i + 1) (j + 1)) := by
  obtain ⟨f, v, hA, hf⟩ := Arr.reach g hg hb m (Nat.le_refl _)
  rw [← hA.det hL]
  exact G_congr _ _ (fun i j hi hj => by rw [hf i hi, hf j hj])

/-- one more at the first place of the middle -/
theorem det_corner (m : Nat) (M : Nat → Nat → Int) : G (-1) (m + 1) (fun a b => M a b + if a = 0 ∧ b = 0 then 1 else 0) = G (-1) (m + 1) M + G (-1) m (fun a b => M (a + 1) (b + 1)) := by
  have e : (fun a b => M a b + if a = 0 ∧ b = 0 then 1 else 0) = setRow M 0 (fun b => 1 * M 0 b + 1 * (if b = 0 then 1 else 0)) := by
    funext a b
    simp only [setRow]
    by_cases ha : a = 0
    · subst ha; simp
    · simp [ha]
  rw [e, G_lin (-1) (by decide) (m + 1) 0 (by omega) M 1 1 (M 0) (fun b => if b = 0 then 1 else 0), setRow_self, Int.one_mul, Int.one_mul]
  congr 1
  rw [G_setRow (-1) (by decide) m 0 (by omega)]
  rw [sumTo_congr (g := fun j => if j = 0 then G (-1) m (minor M 0 0) else 0) (fun j hj => ?_), sumTo_one1 (by omega), pw, Int.one_mul]
  · congr 1
  · by_cases h : j = 0
    · rw [h]; simp [pw]
    · simp [h]

/-- what one pair gives the Laplacian matrix -/
def eT (a b p q : Nat) : Int := (if p = a ∧ q = a then 1 else 0) + (if p = b ∧ q = b then 1 else 0) + (if p = a ∧ q = b then -1 else 0) + (if p = b ∧ q = a then -1 else 0)
def ptA (e : List Int) : Nat := (e.getD 0 0).toNat
def ptB (e : List Int) : Nat := (e.getD 1 0).toNat
def lapF : List (List Int) → Nat → Nat → Int
  | [], _, _ => 0
  | e :: es, p, q => eT (ptA e) (ptB e) p q + lapF es p q
theorem lapF_append (xs ys : List (List Int)) (p q : Nat) : lapF (xs ++ ys) p q = lapF xs p q + lapF ys p q := by
  induction xs with
  | nil => simp [lapF]
  | cons e es ih => rw [List.cons_append, lapF, lapF, ih]; omega

theorem GoodP.pt {n : Int} {p : List Int} (h : GoodP n p) : p = [(ptA p : Int), (ptB p : Int)] ∧ ptA p ≠ ptB p ∧ (ptA p : Int) < n ∧ (ptB p : Int) < n := by
  obtain ⟨a, b, rfl, h1, h2, h3⟩ := h.pts
  simp only [ptA, ptB, List.getD_cons_zero, List.getD_cons_succ, Int.toNat_natCast]
  exact ⟨trivial, h1, h2, h3⟩
theorem fn_foldl {n : Nat} : ∀ (ps : List (List Int)) (rows : List (List Int)), Sq n rows → (∀ p ∈ ps, GoodP n p) → ∀ p q, fn (ps.foldl (fun rows p => lapStep rows (p.getD 0 0).toNat (p.getD 1 0).toNat) rows) p q = fn rows p q + lapF ps p q := by
  intro ps
  induction ps with
  | nil => intro rows _ _ p q; simp [lapF]
  | cons e es ih =>
    intro rows hs hg p q
    obtain ⟨_, _, h2, h3⟩ := (hg e (List.mem_cons_self ..)).pt
    rw [List.foldl_cons, ih _ (lapStep_sq hs _ _) (fun q hq => hg q (List.mem_cons_of_mem _ hq)), fn_lapStep rows _ _ n hs (by unfold ptA at h2; omega) (by unfold ptB at h3; omega), lapF]
    unfold eT ptA ptB
    omega
theorem fn_lapOf {n : Nat} {ps : List (List Int)} (hg : ∀ p ∈ ps, GoodP n p) (p q : Nat) : fn (lapOf n ps) p q = lapF ps p q := by
  unfold lapOf
  rw [fn_foldl ps _ (zeros_sq n) hg, fn_zeros, Int.zero_add]
theorem zeroSum_of {m : Nat} {ps : List (List Int)} (hg : ∀ p ∈ ps, GoodP (m + 1 : Nat) p) : ZeroSum m (lapF ps) := by
  have h := lap_of hg
  have e : ∀ p q, lapF ps p q = fn (lapOf (m + 1) ps) p q := fun p q => (fn_lapOf hg p q).symm
  refine ⟨fun q => ?_, fun p => ?_⟩
  · rw [sumTo_congr (g := fn (lapOf (m + 1) ps) q) (fun p _ => by rw [e, h.sym]), h.sum]
  · rw [sumTo_congr (g := fn (lapOf (m + 1) ps) p) (fun q _ => e p q), h.sum]
/-- the number of trees on m + 1 points -/
def cnt (m : Nat) (ps : List (List Int)) : Int := G (-1) m (fun i j => lapF ps (i + 1) (j + 1))
theorem trees_cnt {m : Nat} {ps : List (List Int)} (h : treeErr ((m + 1 : Nat) : Int) ps = 0) : treesV ((m + 1 : Nat) : Int) ps = cnt m ps := by
  obtain ⟨h1, h2, h3, h4⟩ := treeErr_good h
  unfold treesV cnt
  rw [if_pos h, Int.toNat_natCast, Nat.add_sub_cancel, detN_G, fn_cut]
  refine G_congr _ _ (fun i j _ _ => ?_)
  simp only [minor, sk, Nat.not_lt_zero, if_false]
  exact fn_lapOf h4 _ _

/-- both points of a pair as one, the last point in the place that is left -/
def ren (n a b z : Nat) : Nat := let z1 := if z = b then a else z; if z1 = n - 1 then b else z1
/-- the point number i but a and b -/
def oth (a b i : Nat) : Nat := if i < a ∧ i < b then i else if i + 1 < a ∨ i + 1 < b then i + 1 else i + 2
theorem oth_ne {a b : Nat} (hab : a ≠ b) (i : Nat) : oth a b i ≠ a ∧ oth a b i ≠ b := by unfold oth; constructor <;> (repeat' split) <;> omega
theorem oth_lt {n a b : Nat} (ha : a < n) (hb : b < n) (hab : a ≠ b) {i : Nat} (hi : i < n - 2) : oth a b i < n := by unfold oth; (repeat' split) <;> omega
theorem oth_inj {a b i j : Nat} (h : oth a b i = oth a b j) : i = j := by revert h; unfold oth; (repeat' split) <;> omega
theorem ren_lt {n a b z : Nat} (hn : 2 ≤ n) (ha : a < n) (hb : b < n) (hab : a ≠ b) (hz : z < n) : ren n a b z < n - 1 := by unfold ren; dsimp only; (repeat' split) <;> omega
theorem ren_eq {n a b x p : Nat} (ha : a < n) (hb : b < n) (hab : a ≠ b) (hx : x < n) (hp : p < n) (hpa : p ≠ a) (hpb : p ≠ b) : ren n a b p = ren n a b x ↔ p = x := by
  unfold ren
  dsimp only
  constructor
  · intro h; (repeat' split at h) <;> omega
  · intro h; rw [h]
theorem eT_ren {n a b x y p q : Nat} (ha : a < n) (hb : b < n) (hab : a ≠ b) (hx : x < n) (hy : y < n) (hp : p < n) (hpa : p ≠ a) (hpb : p ≠ b) (hq : q < n) (hqa : q ≠ a) (hqb : q ≠ b) :
    eT (ren n a b x) (ren n a b y) (ren n a b p) (ren n a b q) = eT x y p q := by
  unfold eT
  simp only [ren_eq ha hb hab hx hp hpa hpb, ren_eq ha hb hab hy hp hpa hpb, ren_eq ha hb hab hx hq hqa hqb, ren_eq ha hb hab hy hq hqa hqb]
theorem eT_same (x p q : Nat) : eT x x p q = 0 := by unfold eT; split <;> omega
def joinP (n a b : Nat) (e : List Int) : List (List Int) :=
  if ren n a b (ptA e) ≠ ren n a b (ptB e) then [[(ren n a b (ptA e) : Int), (ren n a b (ptB e) : Int)]] else []
def joined (n a b : Nat) (ps : List (List Int)) : List (List Int) := ps.flatMap (joinP n a b)
theorem lapF_joined {n a b p q : Nat} (ha : a < n) (hb : b < n) (hab : a ≠ b) (hp : p < n) (hpa : p ≠ a) (hpb : p ≠ b) (hq : q < n) (hqa : q ≠ a) (hqb : q ≠ b) :
    ∀ {ps : List (List Int)}, (∀ e ∈ ps, GoodP n e) → lapF (joined n a b ps) (ren n a b p) (ren n a b q) = lapF ps p q := by
  intro ps
  induction ps with
  | nil => intro _; rfl
  | cons e es ih =>
    intro hg
    obtain ⟨_, _, h2, h3⟩ := (hg e (List.mem_cons_self ..)).pt
    have ih' := ih (fun q hq => hg q (List.mem_cons_of_mem _ hq))
    unfold joined at ih' ⊢
    rw [List.flatMap_cons, lapF_append, ih', lapF]
    congr 1
    rw [← eT_ren ha hb hab (x := ptA e) (y := ptB e) (by omega) (by omega) hp hpa hpb hq hqa hqb]
    unfold joinP
    split
    · simp [lapF, ptA, ptB]
    · rename_i h
      have h : ren n a b (ptA e) = ren n a b (ptB e) := by simpa using h
      rw [h, eT_same]
      rfl
theorem joined_good {n a b : Nat} (hn : 2 ≤ n) (ha : a < n) (hb : b < n) (hab : a ≠ b) {ps : List (List Int)} (hg : ∀ e ∈ ps, GoodP n e) : ∀ e ∈ joined n a b ps, GoodP ((n - 1 : Nat) : Int) e := by
  intro e he
  unfold joined at he
  obtain ⟨x, hx, he⟩ := List.mem_flatMap.1 he
  obtain ⟨_, _, h2, h3⟩ := (hg x hx).pt
  unfold joinP at he
  split at he
  · rename_i h
    rw [List.mem_singleton] at he
    subst he
    have l1 := ren_lt hn ha hb hab (z := ptA x) (by omega)
    have l2 := ren_lt hn ha hb hab (z := ptB x) (by omega)
    refine ⟨rfl, by simp; omega, ?_⟩
    simp [anyOut, outB]
    omega
  · cases he
theorem joined_len (n a b : Nat) (ps : List (List Int)) : (joined n a b ps).length ≤ ps.length := by
  unfold joined
  induction ps with
  | nil => simp
  | cons e es ih =>
    rw [List.flatMap_cons, List.length_append, List.length_cons]
    have : (joinP n a b e).length ≤ 1 := by unfold joinP; split <;> simp
    omega

/-- DELETION AND CONTRACTION -/
theorem cnt_cut {m : Nat} {pre post : List (List Int)} {e : List Int} (hg : ∀ x ∈ pre ++ e :: post, GoodP (m + 2 : Nat) x) :
    cnt (m + 1) (pre ++ e :: post) = cnt (m + 1) (pre ++ post) + cnt m (joined (m + 2) (ptA e) (ptB e) (pre ++ post)) := by
  have hgl : ∀ x ∈ pre ++ post, GoodP (m + 2 : Nat) x := fun x hx => hg x (by
    rw [List.mem_append] at hx ⊢
    rcases hx with h | h
    · exact Or.inl h
    · exact Or.inr (List.mem_cons_of_mem _ h))
  obtain ⟨_, hab, h2, h3⟩ := (hg e (by simp)).pt
  have ha : ptA e < m + 2 := by omega
  have hb : ptB e < m + 2 := by omega
  obtain ⟨a, hA⟩ : ∃ a, ptA e = a := ⟨_, rfl⟩
  obtain ⟨b, hB⟩ : ∃ b, ptB e = b := ⟨_, rfl⟩
  rw [hA] at ha hab ⊢
  rw [hB] at hb hab ⊢
  obtain ⟨f, hf⟩ : ∃ f : Nat → Nat, f = fun i => match i with | 0 => a | i + 1 => oth a b i := ⟨_, rfl⟩
  have f0 : f 0 = a := by rw [hf]
  have fs : ∀ i, f (i + 1) = oth a b i := fun i => by rw [hf]
  have finj : ∀ k l, k < m + 1 → l < m + 1 → f k = f l → k = l := by
    intro k l _ _ h
    cases k with
    | zero =>
      cases l with
      | zero => rfl
      | succ l => rw [f0, fs] at h; exact absurd h.symm (oth_ne hab l).1
    | succ k =>
      cases l with
      | zero => rw [f0, fs] at h; exact absurd h (oth_ne hab k).1
      | succ l => rw [fs, fs] at h; rw [oth_inj h]
  have flt : ∀ k, k < m + 1 → f k < m + 1 + 1 := by
    intro k hk
    cases k with
    | zero => rw [f0]; exact ha
    | succ k => rw [fs]; exact oth_lt ha hb hab (by omega)
  have c1 := cofactor_any (zeroSum_of (m := m + 1) hg) f finj flt
  have c2 := cofactor_any (zeroSum_of (m := m + 1) hgl) f finj flt
  have c3 := cofactor_any (zeroSum_of (m := m) (joined_good (by omega) ha hb hab hgl)) (fun i => ren (m + 2) a b (oth a b i))
    (fun k l hk hl h => oth_inj ((ren_eq ha hb hab (oth_lt ha hb hab (by omega)) (oth_lt ha hb hab (by omega)) (oth_ne hab k).1 (oth_ne hab k).2).1 h))
    (fun k hk => by have := ren_lt (n := m + 2) (by omega) ha hb hab (oth_lt ha hb hab (i := k) (by omega)); omega)
  unfold cnt
  rw [← c1, ← c2, ← c3]
  have e1 : (fun i j => lapF (pre ++ e :: post) (f i) (f j)) = (fun i j => lapF (pre ++ post) (f i) (f j) + if i = 0 ∧ j = 0 then 1 else 0) := by
    funext i j
    rw [lapF_append, lapF_append, lapF, hB]
    have fb : ∀ k, f k ≠ b := fun k => by
      cases k with
      | zero => rw [f0]; exact hab
      | succ k => rw [fs]; exact (oth_ne hab k).2
    have fa : ∀ k, f k = a ↔ k = 0 := fun k => by
      cases k with
      | zero => rw [f0]; simp
      | succ k => rw [fs]; simp [(oth_ne hab k).1]
    have : eT (ptA e) b (f i) (f j) = if i = 0 ∧ j = 0 then 1 else 0 := by
      unfold eT
      rw [hA]
      simp only [fa, fb, false_and, and_false, if_false]
      omega
    omega
  rw [e1, det_corner]
  congr 1
  refine G_congr _ _ (fun i j hi hj => ?_)
  rw [fs, fs, lapF_joined ha hb hab (oth_lt ha hb hab (by omega)) (oth_ne hab i).1 (oth_ne hab i).2 (oth_lt ha hb hab (by omega)) (oth_ne hab j).1 (oth_ne hab j).2 hgl]
end Go.Proofs.YtabenflchnobmaaDoor
