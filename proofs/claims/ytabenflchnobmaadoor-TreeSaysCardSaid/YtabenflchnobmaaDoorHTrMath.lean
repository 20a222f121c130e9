/- Plain law: choices of pairs that hang points together without a ring are counted by the Laplacian's cofactor (Kirchhoff), by deletion and contraction. No program in sight. -/
import Derived.Test.YtabenflchnobmaaDoorForest
namespace Go.Proofs.YtabenflchnobmaaDoor
open Go.RowKit
set_option linter.unusedVariables false
set_option linter.unusedSimpArgs false

/-- all labels b become a -/
def mergeL (w : List Int) (a b : Int) : List Int := w.map fun x => if x = b then a else x
/-- choices of pairs, from all that are left -/
def trU : List (List Int) → List Int → Nat → Int
  | [], _, left => if left = 0 then 1 else 0
  | e :: es, w, left => if left = 0 then 1 else trU es w left + (if w.getD (ptA e) 0 = w.getD (ptB e) 0 then 0 else trU es (mergeL w (w.getD (ptA e) 0) (w.getD (ptB e) 0)) (left - 1))
theorem trU_zero (es : List (List Int)) (w : List Int) : trU es w 0 = 1 := by cases es <;> rw [trU, if_pos rfl]
theorem trU_short : ∀ (es : List (List Int)) (w : List Int) (left : Nat), es.length < left → trU es w left = 0 := by
  intro es
  induction es with
  | nil => intro w left h; rw [trU, if_neg (by simp at h; omega)]
  | cons e es ih =>
    intro w left h
    rw [List.length_cons] at h
    rw [trU, if_neg (by omega), ih _ _ (by omega), ih _ _ (by omega)]
    split <;> rfl
theorem trU_nonneg : ∀ (es : List (List Int)) (w : List Int) (left : Nat), 0 ≤ trU es w left := by
  intro es
  induction es with
  | nil => intro w left; rw [trU]; split <;> omega
  | cons e es ih =>
    intro w left
    rw [trU]
    have h1 := ih w left
    have h2 := ih (mergeL w (w.getD (ptA e) 0) (w.getD (ptB e) 0)) (left - 1)
    (repeat' split) <;> omega
theorem trU_bd : ∀ (es : List (List Int)) (w : List Int) (left : Nat), trU es w left ≤ 2 ^ es.length := by
  intro es
  induction es with
  | nil => intro w left; rw [trU]; split <;> decide
  | cons e es ih =>
    intro w left
    rw [trU, List.length_cons, Int.pow_succ]
    have h1 := ih w left
    have h2 := ih (mergeL w (w.getD (ptA e) 0) (w.getD (ptB e) 0)) (left - 1)
    have h3 : (0 : Int) < 2 ^ es.length := Int.pow_pos (by decide)
    (repeat' split) <;> omega
/-- the pair from k on -/
theorem trU_at {ps : List (List Int)} {k left : Nat} (hk : k < ps.length) (w : List Int) (hl : left ≠ 0) :
    trU (ps.drop k) w left = trU (ps.drop (k + 1)) w left + (if w.getD (ptA (ps.getD k [])) 0 = w.getD (ptB (ps.getD k [])) 0 then 0 else trU (ps.drop (k + 1)) (mergeL w (w.getD (ptA (ps.getD k [])) 0) (w.getD (ptB (ps.getD k [])) 0)) (left - 1)) := by
  have e : ps.drop k = ps.getD k [] :: ps.drop (k + 1) := by
    rw [List.drop_eq_getElem_cons hk]
    simp [List.getD, hk]
  rw [e, trU, if_neg hl]

/-- the same with points put together -/
def trJ : Nat → List (List Int) → Int
  | 0, _ => 1
  | _ + 1, [] => 0
  | m + 1, e :: es => trJ (m + 1) es + trJ m (joined (m + 2) (ptA e) (ptB e) es)
termination_by m es => (m, es.length)
theorem cnt_zero (m : Nat) : cnt (m + 1) [] = 0 := by
  unfold cnt
  rw [G]
  have : (fun j => pw (-1) j * (fun i j => lapF [] (i + 1) (j + 1)) 0 j * G (-1) m (minor (fun i j => lapF [] (i + 1) (j + 1)) 0 j)) = fun _ => 0 := by
    funext j
    show pw (-1) j * 0 * _ = 0
    rw [Int.mul_zero, Int.zero_mul]
  rw [this, sumTo_zero]
theorem cnt_trJ (s : Nat) : ∀ (m : Nat) (es : List (List Int)), m + es.length ≤ s → (∀ e ∈ es, GoodP (m + 1 : Nat) e) → cnt m es = trJ m es := by
  induction s with
  | zero =>
    intro m es h hg
    obtain rfl : m = 0 := by omega
    rw [trJ]; rfl
  | succ s ih =>
    intro m es h hg
    match m, es with
    | 0, es => rw [trJ]; rfl
    | m + 1, [] => rw [trJ, cnt_zero]
    | m + 1, e :: es =>
      rw [List.length_cons] at h
      have hc := cnt_cut (m := m) (pre := []) (post := es) (e := e) hg
      rw [List.nil_append, List.nil_append] at hc
      obtain ⟨_, hab, h2, h3⟩ := (hg e (by simp)).pt
      have hj := joined_good (n := m + 2) (by omega) (a := ptA e) (b := ptB e) (by omega) (by omega) hab (ps := es) (fun x hx => hg x (List.mem_cons_of_mem _ hx))
      have hl := joined_len (m + 2) (ptA e) (ptB e) es
      rw [hc, trJ, ih (m + 1) es (by omega) (fun x hx => hg x (List.mem_cons_of_mem _ hx)), ih m _ (by omega) hj]

/-- pairs with their points renamed, those of one point left out -/
def mapE (f : Nat → Nat) (es : List (List Int)) : List (List Int) := es.flatMap fun e => if f (ptA e) = f (ptB e) then [] else [[(f (ptA e) : Int), (f (ptB e) : Int)]]
theorem mapE_cons (f : Nat → Nat) (e : List Int) (es : List (List Int)) : mapE f (e :: es) = (if f (ptA e) = f (ptB e) then [] else [[(f (ptA e) : Int), (f (ptB e) : Int)]]) ++ mapE f es := by
  unfold mapE; rw [List.flatMap_cons]
theorem ptA_two (x y : Nat) : ptA [(x : Int), (y : Int)] = x := by simp [ptA]
theorem ptB_two (x y : Nat) : ptB [(x : Int), (y : Int)] = y := by simp [ptB]
theorem joined_mapE (n a b : Nat) (f : Nat → Nat) (es : List (List Int)) : joined n a b (mapE f es) = mapE (fun v => ren n a b (f v)) es := by
  induction es with
  | nil => rfl
  | cons e es ih =>
    rw [mapE_cons, mapE_cons]
    unfold joined at ih ⊢
    rw [List.flatMap_append, ih]
    congr 1
    by_cases h : f (ptA e) = f (ptB e)
    · rw [if_pos h, if_pos (by rw [h])]; rfl
    · rw [if_neg h]
      show joinP n a b [(f (ptA e) : Int), (f (ptB e) : Int)] ++ [] = _
      rw [List.append_nil]
      unfold joinP
      rw [ptA_two, ptB_two]
      by_cases h2 : ren n a b (f (ptA e)) = ren n a b (f (ptB e))
      · rw [if_neg (by simpa using h2), if_pos h2]
      · rw [if_pos h2, if_neg h2]
theorem ren_iff {n a b z t : Nat} (hn : 2 ≤ n) (ha : a < n) (hb : b < n) (hab : a ≠ b) (hz : z < n) (ht : t < n) : ren n a b z = ren n a b t ↔ (z = t ∨ ((z = a ∨ z = b) ∧ (t = a ∨ t = b))) := by
  unfold ren
  dsimp only
  (repeat' split) <;> omega
theorem merge_len (w : List Int) (a b : Int) : (mergeL w a b).length = w.length := by simp [mergeL]
theorem merge_at {w : List Int} (a b : Int) {v : Nat} (hv : v < w.length) : (mergeL w a b).getD v 0 = if w.getD v 0 = b then a else w.getD v 0 := by
  simp [mergeL, List.getD, hv]
/-- labels count as the points that they stand for -/
theorem trU_trJ (N : Nat) : ∀ (es : List (List Int)) (m : Nat) (w : List Int) (f : Nat → Nat), w.length = N → (∀ e ∈ es, ptA e < N ∧ ptB e < N) → (∀ v, v < N → f v < m + 1) → (∀ x y, x < N → y < N → (w.getD x 0 = w.getD y 0 ↔ f x = f y)) → trU es w m = trJ m (mapE f es) := by
  intro es
  induction es with
  | nil =>
    intro m w f _ _ _ _
    show (if m = 0 then 1 else 0) = _
    match m with
    | 0 => rw [trJ]; rfl
    | m + 1 => show _ = trJ (m + 1) []; rw [trJ]; rfl
  | cons e es ih =>
    intro m w f hl hg hf hw
    obtain ⟨h1, h2⟩ := hg e (by simp)
    have hg' : ∀ x ∈ es, ptA x < N ∧ ptB x < N := fun x hx => hg x (List.mem_cons_of_mem _ hx)
    match m with
    | 0 => rw [trU_zero, trJ]
    | m + 1 =>
      rw [trU, if_neg (by omega), mapE_cons, ih (m + 1) w f hl hg' hf hw]
      by_cases h : w.getD (ptA e) 0 = w.getD (ptB e) 0
      · rw [if_pos h, if_pos ((hw _ _ h1 h2).1 h), List.nil_append, Int.add_zero]
      · have hne : f (ptA e) ≠ f (ptB e) := fun e2 => h ((hw _ _ h1 h2).2 e2)
        rw [if_neg h, if_neg hne, List.singleton_append, trJ]
        congr 1
        have ea : ptA [(f (ptA e) : Int), (f (ptB e) : Int)] = f (ptA e) := by simp [ptA]
        have eb : ptB [(f (ptA e) : Int), (f (ptB e) : Int)] = f (ptB e) := by simp [ptB]
        rw [ea, eb, joined_mapE]
        refine ih m _ _ (by rw [merge_len]; exact hl) hg' (fun v hv => ?_) (fun x y hx hy => ?_)
        · have := ren_lt (n := m + 2) (by omega) (hf _ h1) (hf _ h2) hne (hf v hv)
          omega
        · rw [merge_at _ _ (by omega), merge_at _ _ (by omega), ren_iff (by omega) (hf _ h1) (hf _ h2) hne (hf x hx) (hf y hy), ← hw x y hx hy, ← hw x _ hx h1, ← hw x _ hx h2, ← hw y _ hy h1, ← hw y _ hy h2]
          generalize w.getD x 0 = p at *
          generalize w.getD y 0 = q at *
          generalize w.getD (ptA e) 0 = s at *
          generalize w.getD (ptB e) 0 = t at *
          (repeat' split) <;> constructor <;> intro hh <;> omega
/-- the labels at the start -/
def idL (n : Nat) : List Int := (List.range n).map fun i : Nat => (i : Int)
theorem idL_len (n : Nat) : (idL n).length = n := by simp [idL]
theorem idL_at {n v : Nat} (h : v < n) : (idL n).getD v 0 = v := by simp [idL, List.getD, h]
theorem idL_succ (n : Nat) : idL (n + 1) = idL n ++ [(n : Int)] := by simp [idL, List.range_succ]
theorem mapE_id {n : Nat} {es : List (List Int)} (hg : ∀ e ∈ es, GoodP n e) : mapE (fun v => v) es = es := by
  induction es with
  | nil => rfl
  | cons e es ih =>
    obtain ⟨h0, h1, _, _⟩ := (hg e (by simp)).pt
    rw [mapE_cons, ih (fun x hx => hg x (List.mem_cons_of_mem _ hx))]
    rw [if_neg h1, ← h0]
    rfl
theorem trees_all {m : Nat} {ps : List (List Int)} (h : treeErr ((m + 1 : Nat) : Int) ps = 0) : trU ps (idL (m + 1)) m = treesV ((m + 1 : Nat) : Int) ps := by
  obtain ⟨h1, h2, h3, h4⟩ := treeErr_good h
  rw [trees_cnt h, cnt_trJ _ m ps (Nat.le_refl _) h4, trU_trJ (m + 1) ps m (idL (m + 1)) (fun v => v) (idL_len _) (fun e he => by
    obtain ⟨_, _, a1, a2⟩ := (h4 e he).pt
    omega) (fun v hv => hv) (fun x y hx hy => by rw [idL_at hx, idL_at hy]; omega), mapE_id h4]

/-- how many of the pairs two points stand in together -/
def betw (ps : List (List Int)) (a b : Nat) : Int := ((ps.filter fun e => (decide (ptA e = a) && decide (ptB e = b)) || (decide (ptA e = b) && decide (ptB e = a))).length : Int)
theorem betw_cons (e : List Int) (es : List (List Int)) (a b : Nat) : betw (e :: es) a b = betw es a b + if (ptA e = a ∧ ptB e = b) ∨ (ptA e = b ∧ ptB e = a) then 1 else 0 := by
  unfold betw
  by_cases h : (ptA e = a ∧ ptB e = b) ∨ (ptA e = b ∧ ptB e = a)
  · rw [if_pos h, List.filter_cons_of_pos (by simpa using h), List.length_cons]; rfl
  · rw [if_neg h, List.filter_cons_of_neg (by simpa using h)]; omega
theorem lapF_off {n : Nat} {ps : List (List Int)} (hg : ∀ e ∈ ps, GoodP n e) {p q : Nat} (h : p ≠ q) : lapF ps p q = -betw ps p q := by
  induction ps with
  | nil => rfl
  | cons e es ih =>
    obtain ⟨_, h1, _, _⟩ := (hg e (by simp)).pt
    rw [lapF, betw_cons, ih (fun x hx => hg x (List.mem_cons_of_mem _ hx))]
    unfold eT
    (repeat' split) <;> omega
theorem betw_bd (ps : List (List Int)) (a b : Nat) : 0 ≤ betw ps a b ∧ betw ps a b ≤ ps.length := by
  unfold betw
  have := List.length_filter_le (fun e => (decide (ptA e = a) && decide (ptB e = b)) || (decide (ptA e = b) && decide (ptB e = a))) ps
  omega
end Go.Proofs.YtabenflchnobmaaDoor
