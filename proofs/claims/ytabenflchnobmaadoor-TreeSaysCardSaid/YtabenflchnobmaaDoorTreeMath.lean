/- Plain law: what is wrong with points and pairs; the Laplacian matrix. No program in sight. -/
import Derived.Test.YtabenflchnobmaaDoorErrMath
import Derived.Test.YtabenflchnobmaaDoorAlg
namespace Go.Proofs.YtabenflchnobmaaDoor
open Go.RowKit
set_option linter.unusedVariables false
set_option linter.unusedSimpArgs false

def pairsErr (n : Int) : List (List Int) → Int
  | [] => 0
  | p :: ps => if p.length ≠ 2 ∨ p.getD 0 0 = p.getD 1 0 then 3 else if anyOut 0 (n - 1) p = true then 1 else pairsErr n ps
def treeErr (n : Int) (ps : List (List Int)) : Int := if outB 1 6 n = true then 1 else if 15 < ps.length then 4 else pairsErr n ps
/-- a pair without fault -/
def GoodP (n : Int) (p : List Int) : Prop := p.length = 2 ∧ p.getD 0 0 ≠ p.getD 1 0 ∧ anyOut 0 (n - 1) p = false

theorem pairsErr_skip (n : Int) : ∀ (ps : List (List Int)) (k : Nat), k ≤ ps.length → (∀ i, i < k → GoodP n (ps.getD i [])) → pairsErr n ps = pairsErr n (ps.drop k) := by
  intro ps
  induction ps with
  | nil => intro k hk _; simp at hk; subst hk; rfl
  | cons r rs ih =>
    intro k hk h
    cases k with
    | zero => rfl
    | succ k =>
      have h0 := h 0 (by omega)
      simp only [List.getD_cons_zero] at h0
      rw [pairsErr, if_neg (by have := h0.1; have := h0.2.1; omega), if_neg (by rw [h0.2.2]; simp), List.drop_succ_cons]
      exact ih k (by simpa using hk) (fun i hi => by have := h (i + 1) (by omega); simpa using this)
theorem pairsErr_three {n : Int} {ps : List (List Int)} {k : Nat} (hk : k < ps.length) (h : ∀ i, i < k → GoodP n (ps.getD i [])) (hb : (ps.getD k []).length ≠ 2 ∨ (ps.getD k []).getD 0 0 = (ps.getD k []).getD 1 0) : pairsErr n ps = 3 := by
  rw [pairsErr_skip n ps k (by omega) h, drop_cons ps k hk, pairsErr, if_pos hb]
theorem pairsErr_one {n : Int} {ps : List (List Int)} {k : Nat} (hk : k < ps.length) (h : ∀ i, i < k → GoodP n (ps.getD i [])) (hb : ¬ ((ps.getD k []).length ≠ 2 ∨ (ps.getD k []).getD 0 0 = (ps.getD k []).getD 1 0)) (hb2 : anyOut 0 (n - 1) (ps.getD k []) = true) : pairsErr n ps = 1 := by
  rw [pairsErr_skip n ps k (by omega) h, drop_cons ps k hk, pairsErr, if_neg hb, if_pos hb2]
theorem pairsErr_zero {n : Int} {ps : List (List Int)} (h : ∀ i, i < ps.length → GoodP n (ps.getD i [])) : pairsErr n ps = 0 := by
  rw [pairsErr_skip n ps ps.length (Nat.le_refl _) h, List.drop_length, pairsErr]
theorem pairsErr_good {n : Int} : ∀ {ps : List (List Int)}, pairsErr n ps = 0 → ∀ p ∈ ps, GoodP n p := by
  intro ps
  induction ps with
  | nil => intro _ r hr; cases hr
  | cons q rs ih =>
    intro h r hr
    rw [pairsErr] at h
    split at h
    · cases h
    · split at h
      · cases h
      · rename_i h1 h2
        rcases List.mem_cons.1 hr with rfl | hr
        · exact ⟨by omega, by omega, by simpa using h2⟩
        · exact ih h r hr
theorem treeErr_good {n : Int} {ps : List (List Int)} (h : treeErr n ps = 0) : 1 ≤ n ∧ n ≤ 6 ∧ ps.length ≤ 15 ∧ ∀ p ∈ ps, GoodP n p := by
  unfold treeErr at h
  split at h
  · cases h
  · split at h
    · cases h
    · rename_i h1 h2
      simp [outB] at h1
      exact ⟨by omega, by omega, by omega, pairsErr_good h⟩
/-- a good pair's two points -/
theorem GoodP.pts {n : Int} {p : List Int} (h : GoodP n p) : ∃ a b : Nat, p = [(a : Int), (b : Int)] ∧ a ≠ b ∧ (a : Int) < n ∧ (b : Int) < n := by
  obtain ⟨h1, h2, h3⟩ := h
  match p, h1 with
  | [x, y], _ =>
    simp [anyOut, outB] at h2 h3
    refine ⟨x.toNat, y.toNat, ?_, ?_, ?_, ?_⟩
    · rw [Int.toNat_of_nonneg (by omega), Int.toNat_of_nonneg (by omega)]
    · omega
    · omega
    · omega

/-- one element changed by d -/
def incr (rows : List (List Int)) (i j : Nat) (d : Int) : List (List Int) := rows.set i ((rows.getD i []).set j ((rows.getD i []).getD j 0 + d))
/-- one pair put into the Laplacian matrix -/
def lapStep (rows : List (List Int)) (a b : Nat) : List (List Int) := incr (incr (incr (incr rows a a 1) b b 1) a b (-1)) b a (-1)
def lapOf (n : Nat) (ps : List (List Int)) : List (List Int) := ps.foldl (fun rows p => lapStep rows (p.getD 0 0).toNat (p.getD 1 0).toNat) (List.replicate n (List.replicate n 0))
theorem incr_sq {n : Nat} {rows : List (List Int)} (h : Sq n rows) (i j : Nat) (d : Int) : Sq n (incr rows i j d) := by
  refine ⟨by unfold incr; rw [List.length_set]; exact h.1, fun k hk => ?_⟩
  unfold incr
  by_cases e : i = k
  · subst e
    have : i < rows.length := by rw [h.1]; exact hk
    simp only [List.getD_eq_getElem?_getD, List.getElem?_set_self this, Option.getD_some, List.length_set]
    have := h.2 i hk
    rw [List.getD_eq_getElem?_getD] at this
    exact this
  · have := h.2 k hk
    rw [List.getD_eq_getElem?_getD] at this
    simp only [List.getD_eq_getElem?_getD, List.getElem?_set_ne e]
    exact this
theorem lapStep_sq {n : Nat} {rows : List (List Int)} (h : Sq n rows) (a b : Nat) : Sq n (lapStep rows a b) := incr_sq (incr_sq (incr_sq (incr_sq h _ _ _) _ _ _) _ _ _) _ _ _
theorem zeros_sq (n : Nat) : Sq n (List.replicate n (List.replicate n 0)) := by
  refine ⟨by simp, fun k hk => ?_⟩
  simp [List.getD, hk]
theorem foldl_sq {n : Nat} : ∀ (ps : List (List Int)) (rows : List (List Int)), Sq n rows → Sq n (ps.foldl (fun rows p => lapStep rows (p.getD 0 0).toNat (p.getD 1 0).toNat) rows) := by
  intro ps
  induction ps with
  | nil => intro rows h; exact h
  | cons p ps ih => intro rows h; exact ih _ (lapStep_sq h _ _)
theorem lapOf_sq (n : Nat) (ps : List (List Int)) : Sq n (lapOf n ps) := foldl_sq ps _ (zeros_sq n)
theorem lapOf_snoc (n : Nat) (ps : List (List Int)) (p : List Int) : lapOf n (ps ++ [p]) = lapStep (lapOf n ps) (p.getD 0 0).toNat (p.getD 1 0).toNat := by simp [lapOf]
theorem take_snoc' (ps : List (List Int)) (k : Nat) (hk : k < ps.length) : ps.take (k + 1) = ps.take k ++ [ps.getD k []] := by
  rw [List.take_succ_eq_append_getElem hk]
  simp [List.getD, hk]
theorem fn_incr (rows : List (List Int)) (i j : Nat) (d : Int) (n : Nat) (h : Sq n rows) (hi : i < n) (hj : j < n) : ∀ p q, fn (incr rows i j d) p q = fn rows p q + if p = i ∧ q = j then d else 0 := by
  intro p q
  have hil : i < rows.length := by rw [h.1]; exact hi
  have hjl : j < (rows.getD i []).length := by rw [h.2 i hi]; exact hj
  unfold incr
  rw [fn_set rows i _ hil]
  simp only [setRow]
  by_cases hp : p = i
  · subst hp
    rw [if_pos rfl]
    by_cases hq : q = j
    · subst hq
      rw [if_pos ⟨rfl, rfl⟩]
      simp only [List.getD_eq_getElem?_getD, List.getElem?_set_self (show q < (rows[p]?.getD []).length by rw [← List.getD_eq_getElem?_getD]; exact hjl), fn]
      rfl
    · rw [if_neg (fun e => hq e.2)]
      simp only [List.getD_eq_getElem?_getD, List.getElem?_set_ne (fun e => hq e.symm), fn]
      simp
  · rw [if_neg hp, if_neg (fun e => hp e.1)]
    omega
/-- the entries of the Laplacian matrix, one pair more -/
theorem fn_lapStep (rows : List (List Int)) (a b n : Nat) (h : Sq n rows) (ha : a < n) (hb : b < n) : ∀ p q, fn (lapStep rows a b) p q = fn rows p q + (if p = a ∧ q = a then 1 else 0) + (if p = b ∧ q = b then 1 else 0) + (if p = a ∧ q = b then -1 else 0) + (if p = b ∧ q = a then -1 else 0) := by
  intro p q
  unfold lapStep
  rw [fn_incr _ b a (-1) n (incr_sq (incr_sq (incr_sq h _ _ _) _ _ _) _ _ _) hb ha, fn_incr _ a b (-1) n (incr_sq (incr_sq h _ _ _) _ _ _) ha hb, fn_incr _ b b 1 n (incr_sq h _ _ _) hb hb, fn_incr _ a a 1 n h ha ha]

theorem ent_incr {B : Int} {n : Nat} {rows : List (List Int)} (hs : Sq n rows) (h : Ent B rows) {i j : Nat} (hi : i < n) (hj : j < n) {d : Int} (hd : -1 ≤ d ∧ d ≤ 1) : Ent (B + 1) (incr rows i j d) := by
  intro p q
  have h1 := fn_incr rows i j d n hs hi hj p q
  have h2 := h p q
  simp only [fn] at h1
  rw [h1]
  split <;> omega
theorem ent_lapStep {B : Int} {n : Nat} {rows : List (List Int)} (hs : Sq n rows) (h : Ent B rows) {a b : Nat} (ha : a < n) (hb : b < n) : Ent (B + 4) (lapStep rows a b) := by
  have h1 := ent_incr hs h ha ha (d := 1) (by omega)
  have h2 := ent_incr (incr_sq hs _ _ _) h1 hb hb (d := 1) (by omega)
  have h3 := ent_incr (incr_sq (incr_sq hs _ _ _) _ _ _) h2 ha hb (d := -1) (by omega)
  have h4 := ent_incr (incr_sq (incr_sq (incr_sq hs _ _ _) _ _ _) _ _ _) h3 hb ha (d := -1) (by omega)
  have e : B + 1 + 1 + 1 + 1 = B + 4 := by omega
  rw [e] at h4
  exact h4
theorem ent_mono {B C : Int} {rows : List (List Int)} (h : Ent B rows) (hBC : B ≤ C) : Ent C rows := by
  intro p q
  have := h p q
  omega
theorem ent_foldl {n : Nat} : ∀ (ps : List (List Int)) (rows : List (List Int)) (B : Int), Sq n rows → Ent B rows → (∀ p ∈ ps, GoodP n p) → Ent (B + 4 * ps.length) (ps.foldl (fun rows p => lapStep rows (p.getD 0 0).toNat (p.getD 1 0).toNat) rows) := by
  intro ps
  induction ps with
  | nil => intro rows B _ h _; simpa using h
  | cons p ps ih =>
    intro rows B hs h hg
    obtain ⟨x, y, hp, _, hx, hy⟩ := (hg p (List.mem_cons_self ..)).pts
    rw [List.foldl_cons]
    have e1 : (p.getD 0 0).toNat = x := by rw [hp]; simp
    have e2 : (p.getD 1 0).toNat = y := by rw [hp]; simp
    rw [e1, e2]
    have := ih _ (B + 4) (lapStep_sq hs x y) (ent_lapStep hs h (by omega) (by omega)) (fun q hq => hg q (List.mem_cons_of_mem _ hq))
    refine ent_mono this ?_
    simp only [List.length_cons]
    omega
theorem ent_lapOf {n : Nat} {ps : List (List Int)} (hg : ∀ p ∈ ps, GoodP n p) : Ent (4 * ps.length) (lapOf n ps) := by
  have := ent_foldl ps (List.replicate n (List.replicate n 0)) 0 (zeros_sq n) (by
    intro p q
    have : (((List.replicate n (List.replicate n (0 : Int))).getD p []).getD q 0) = 0 := by
      by_cases hp : p < n
      · by_cases hq : q < n
        · simp [List.getD, hp, hq]
        · simp [List.getD, hp, hq]
      · simp [List.getD, hp]
    rw [this]
    omega) hg
  rw [Int.zero_add] at this
  exact this

theorem sumTo_one {n b : Nat} (hb : b < n) (d : Int) : sumTo (fun q => if q = b then d else 0) n = d := by
  induction n with
  | zero => omega
  | succ n ih =>
    rw [sumTo]
    by_cases h : b < n
    · rw [ih h, if_neg (by omega)]; omega
    · obtain rfl : b = n := by omega
      rw [if_pos rfl, sumTo_congr (g := fun _ => 0) (fun q hq => by rw [if_neg (by omega)]), sumTo_zero]
      omega
theorem sumTo_ind {n b : Nat} (hb : b < n) (p a : Nat) (d : Int) : sumTo (fun q => if p = a ∧ q = b then d else 0) n = if p = a then d else 0 := by
  by_cases h : p = a
  · rw [if_pos h, sumTo_congr (g := fun q => if q = b then d else 0) (fun q hq => by simp [h]), sumTo_one hb]
  · rw [if_neg h, sumTo_congr (g := fun _ => 0) (fun q hq => by simp [h]), sumTo_zero]
theorem sumTo_diag {n a : Nat} (ha : a < n) (d : Int) : sumTo (fun q => if q = a ∧ q = a then d else 0) n = d := by
  rw [sumTo_congr (g := fun q => if q = a then d else 0) (fun q hq => by simp), sumTo_one ha]
theorem sumTo_off {n a b : Nat} (h : a ≠ b) (d : Int) : sumTo (fun q => if q = a ∧ q = b then d else 0) n = 0 := by
  rw [sumTo_congr (g := fun _ => 0) (fun q hq => by rw [if_neg (by omega)]), sumTo_zero]

/-- what a Laplacian matrix of k pairs is -/
structure Lap (n : Nat) (k : Nat) (rows : List (List Int)) : Prop where
  sq : Sq n rows
  sym : ∀ p q, fn rows p q = fn rows q p
  sum : ∀ p, sumTo (fn rows p) n = 0
  tr : sumTo (fun p => fn rows p p) n = 2 * k
theorem Lap.step {n k : Nat} {rows : List (List Int)} (h : Lap n k rows) {a b : Nat} (ha : a < n) (hb : b < n) (hab : a ≠ b) : Lap n (k + 1) (lapStep rows a b) := by
  have hf := fn_lapStep rows a b n h.sq ha hb
  refine ⟨lapStep_sq h.sq a b, fun p q => ?_, fun p => ?_, ?_⟩
  · rw [hf p q, hf q p, h.sym p q]
    by_cases h1 : p = a <;> by_cases h2 : q = a <;> by_cases h3 : p = b <;> by_cases h4 : q = b <;> simp_all
  · have e : sumTo (fn (lapStep rows a b) p) n = sumTo (fun q => (((fn rows p q + (if p = a ∧ q = a then 1 else 0)) + (if p = b ∧ q = b then 1 else 0)) + (if p = a ∧ q = b then -1 else 0)) + (if p = b ∧ q = a then -1 else 0)) n := sumTo_congr (fun q _ => hf p q)
    rw [e, sumTo_add, sumTo_add, sumTo_add, sumTo_add, h.sum p, sumTo_ind ha, sumTo_ind hb, sumTo_ind hb, sumTo_ind ha]
    (repeat' split) <;> omega
  · have e : sumTo (fun p => fn (lapStep rows a b) p p) n = sumTo (fun q => (((fn rows q q + (if q = a ∧ q = a then 1 else 0)) + (if q = b ∧ q = b then 1 else 0)) + (if q = a ∧ q = b then -1 else 0)) + (if q = b ∧ q = a then -1 else 0)) n := sumTo_congr (fun q _ => hf q q)
    rw [e, sumTo_add, sumTo_add, sumTo_add, sumTo_add, h.tr, sumTo_diag ha, sumTo_diag hb, sumTo_off hab, sumTo_off (fun h => hab h.symm)]
    omega
theorem fn_zeros (n : Nat) : ∀ p q, fn (List.replicate n (List.replicate n 0)) p q = 0 := by
  intro p q
  simp only [fn]
  by_cases hp : p < n
  · by_cases hq : q < n
    · simp [List.getD, hp, hq]
    · simp [List.getD, hp, hq]
  · simp [List.getD, hp]
theorem Lap.foldl {n : Nat} : ∀ (ps : List (List Int)) (k : Nat) (rows : List (List Int)), Lap n k rows → (∀ p ∈ ps, GoodP n p) → Lap n (k + ps.length) (ps.foldl (fun rows p => lapStep rows (p.getD 0 0).toNat (p.getD 1 0).toNat) rows) := by
  intro ps
  induction ps with
  | nil => intro k rows h _; exact h
  | cons p ps ih =>
    intro k rows h hg
    obtain ⟨x, y, hp, hxy, hx, hy⟩ := (hg p (List.mem_cons_self ..)).pts
    rw [List.foldl_cons]
    have e1 : (p.getD 0 0).toNat = x := by rw [hp]; simp
    have e2 : (p.getD 1 0).toNat = y := by rw [hp]; simp
    rw [e1, e2]
    have := ih (k + 1) _ (h.step (show x < n by omega) (show y < n by omega) hxy) (fun q hq => hg q (List.mem_cons_of_mem _ hq))
    rw [List.length_cons, show k + (ps.length + 1) = k + 1 + ps.length from by omega]
    exact this
theorem lap_of {n : Nat} {ps : List (List Int)} (hg : ∀ p ∈ ps, GoodP n p) : Lap n ps.length (lapOf n ps) := by
  have h0 : Lap n 0 (List.replicate n (List.replicate n 0)) := by
    refine ⟨zeros_sq n, fun p q => by rw [fn_zeros, fn_zeros], fun p => ?_, ?_⟩
    · rw [sumTo_congr (g := fun _ => 0) (fun q _ => fn_zeros n p q), sumTo_zero]
    · rw [sumTo_congr (g := fun _ => 0) (fun q _ => fn_zeros n q q), sumTo_zero]; rfl
  have := Lap.foldl ps 0 _ h0 hg
  rw [Nat.zero_add] at this
  exact this

/-- the number of spanning trees -/
def treesV (n : Int) (ps : List (List Int)) : Int := if treeErr n ps = 0 then detN (n.toNat - 1) (cut (lapOf n.toNat ps) 0 0) else 0
theorem bnd60 {n : Nat} (h : n ≤ 5) : bnd 60 n ≤ 93312000000 ∧ 0 ≤ bnd 60 n := by
  match n, h with
  | 0, _ => decide
  | 1, _ => decide
  | 2, _ => decide
  | 3, _ => decide
  | 4, _ => decide
  | 5, _ => decide
theorem trees_bd {n : Int} {ps : List (List Int)} (h : treeErr n ps = 0) : -93312000000 ≤ detN (n.toNat - 1) (cut (lapOf n.toNat ps) 0 0) ∧ detN (n.toNat - 1) (cut (lapOf n.toNat ps) 0 0) ≤ 93312000000 := by
  obtain ⟨h1, h2, h3, h4⟩ := treeErr_good h
  have hg : ∀ p ∈ ps, GoodP n.toNat p := by
    have e : ((n.toNat : Nat) : Int) = n := Int.toNat_of_nonneg (by omega)
    rw [e]
    exact h4
  have he : Ent 60 (lapOf n.toNat ps) := ent_mono (ent_lapOf hg) (by omega)
  have := detN_bd (n.toNat - 1) (he.cut 0 0)
  have := bnd60 (n := n.toNat - 1) (by omega)
  omega
end Go.Proofs.YtabenflchnobmaaDoor
