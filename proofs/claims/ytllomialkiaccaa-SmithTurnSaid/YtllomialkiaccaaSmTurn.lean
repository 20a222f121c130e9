/- Plain law: the last invariant factor, so many times, makes any row a sum; turned rows have the same factors. -/
import Derived.Test.YtllomialkiaccaaSmTools
import Derived.Test.YtllomialkiaccaaHerHas
import Derived.Test.YtllomialkiaccaaRowsLaw
import Derived.Test.YtllomialkiaccaaFlip
namespace Go.Proofs.Ytllomialkiaccaa.SmT
open Go.RowKit
open Go.Proofs.Ytllomialkiaccaa
set_option linter.unusedVariables false
set_option linter.unusedSimpArgs false

theorem unit_lat {n : Nat} {M : Nat → Nat → Int} (a : Nat → Int) {c : Nat} (hc : c < n) {D K q s : Int} (h : ∀ j, j < n → sumTo (fun i => a i * M i j) n = if j = c then D else 0) (hd : ∀ i, i < n → K ∣ a i) (hK : K ≠ 0) (hD : D = s * (K * q)) (hs : s * s = 1) : Lat n M (fun j => if j = c then q else 0) := by
  refine ⟨fun i => s * (a i / K), fun j hj => ?_⟩
  have e1 : K * sumTo (fun i => s * (a i / K) * M i j) n = s * sumTo (fun i => a i * M i j) n := by
    rw [← sumTo_mul, ← sumTo_mul]
    refine sumTo_congr fun i hi => ?_
    have := Int.mul_ediv_cancel' (hd i hi)
    generalize a i / K = b at *
    rw [← this]; grind
  rw [h j hj] at e1
  refine Int.eq_of_mul_eq_mul_left hK ?_
  rw [e1]
  show K * (if j = c then q else 0) = _
  by_cases hjc : j = c
  · rw [if_pos hjc, if_pos hjc, hD]; grind
  · rw [if_neg hjc, if_neg hjc]; simp
theorem all_lat {n : Nat} {M : Nat → Nat → Int} {q : Int} (h : ∀ c, c < n → Lat n M (fun j => if j = c then q else 0)) (x : Nat → Int) : Lat n M (fun j => x j * q) := by
  refine lat_congr (lat_sum (N := fun c j => if j = c then q else 0) h x n (Nat.le_refl _)) (fun _ _ _ _ => rfl) fun j hj => ?_
  show sumTo (fun i => x i * if j = i then q else 0) n = x j * q
  rw [sum_one n j hj _ (fun k hk hne => by rw [if_neg (fun h => hne h.symm)]; simp)]
  rw [if_pos rfl]
theorem last_lat {n : Nat} {rows : List (List Int)} (h : HerOk n rows) (x : Nat → Int) : Lat n (fn rows) (fun j => x j * (partsTo n (fn rows) n).getD (n - 1) 0) := by
  have h0 := h.pos
  have h3 := h.le
  obtain ⟨q, h1, h2, _, _⟩ := fac h (show n - 1 < n by omega)
  rw [partsTo_at n _ n (n - 1) (by omega), ← h1]
  have hLr := last_range h (k := n - 1) (by omega)
  have hall := div_all h0 h3 (fn rows)
  have hn1 : n - 1 + 1 = n := by omega
  rw [hn1, hall] at h2
  generalize fn rows = M at *
  obtain ⟨s, hs, hss⟩ : ∃ s : Int, G (-1) n M = s * ((G (-1) n M).natAbs : Int) ∧ s * s = 1 := by
    rcases Int.natAbs_eq (G (-1) n M) with e | e
    · exact ⟨1, by omega, by decide⟩
    · exact ⟨-1, by omega, by decide⟩
  rw [h2] at hs
  refine all_lat (fun c hc => ?_) x
  have : (n = 1 ∧ c = 0) ∨ (n = 2 ∧ c = 0) ∨ (n = 2 ∧ c = 1) ∨ (n = 3 ∧ c = 0) ∨ (n = 3 ∧ c = 1) ∨ (n = 3 ∧ c = 2) := by omega
  have two : ∀ {j : Nat}, j < 2 → j = 0 ∨ j = 1 := by omega
  have three : ∀ {j : Nat}, j < 3 → j = 0 ∨ j = 1 ∨ j = 2 := by omega
  rcases this with ⟨rfl, rfl⟩ | ⟨rfl, rfl⟩ | ⟨rfl, rfl⟩ | ⟨rfl, rfl⟩ | ⟨rfl, rfl⟩ | ⟨rfl, rfl⟩
  · refine unit_lat (fun _ => 1) hc (fun j hj => ?_) (fun i _ => ?_) (by omega) hs hss
    · have : j = 0 := by omega
      subst this
      rw [G1]; simp [sumTo]
    · exact Int.one_dvd _
  · have hd := (dvd_one (n := 2) (by omega) (by omega) M).1 (Int.dvd_refl (divV 2 1 M))
    refine unit_lat (fun i => if i = 0 then M 1 1 else -M 0 1) hc (fun j hj => ?_) (fun i hi => ?_) (by omega) hs hss
    · rw [G2]
      rcases two hj with rfl | rfl <;> simp [sumTo, m2] <;> grind
    · rcases two hi with rfl | rfl
      · exact hd 1 1 (by omega) (by omega)
      · exact Int.dvd_neg.2 (hd 0 1 (by omega) (by omega))
  · have hd := (dvd_one (n := 2) (by omega) (by omega) M).1 (Int.dvd_refl (divV 2 1 M))
    refine unit_lat (fun i => if i = 0 then -M 1 0 else M 0 0) hc (fun j hj => ?_) (fun i hi => ?_) (by omega) hs hss
    · rw [G2]
      rcases two hj with rfl | rfl <;> simp [sumTo, m2] <;> grind
    · rcases two hi with rfl | rfl
      · exact Int.dvd_neg.2 (hd 1 0 (by omega) (by omega))
      · exact hd 0 0 (by omega) (by omega)
  · have hd := (dvd_two M).1 (Int.dvd_refl (divV 3 2 M))
    refine unit_lat (fun i => if i = 0 then m2 M 1 2 1 2 else if i = 1 then -m2 M 0 2 1 2 else m2 M 0 1 1 2) hc (fun j hj => ?_) (fun i hi => ?_) (by omega) hs hss
    · rw [G3]
      rcases three hj with rfl | rfl | rfl <;> simp [sumTo, m2] <;> grind
    · rcases three hi with rfl | rfl | rfl
      · exact hd _ _ _ _ (by omega) (by omega) (by omega) (by omega)
      · exact Int.dvd_neg.2 (hd _ _ _ _ (by omega) (by omega) (by omega) (by omega))
      · exact hd _ _ _ _ (by omega) (by omega) (by omega) (by omega)
  · have hd := (dvd_two M).1 (Int.dvd_refl (divV 3 2 M))
    refine unit_lat (fun i => if i = 0 then -m2 M 1 2 0 2 else if i = 1 then m2 M 0 2 0 2 else -m2 M 0 1 0 2) hc (fun j hj => ?_) (fun i hi => ?_) (by omega) hs hss
    · rw [G3]
      rcases three hj with rfl | rfl | rfl <;> simp [sumTo, m2] <;> grind
    · rcases three hi with rfl | rfl | rfl
      · exact Int.dvd_neg.2 (hd _ _ _ _ (by omega) (by omega) (by omega) (by omega))
      · exact hd _ _ _ _ (by omega) (by omega) (by omega) (by omega)
      · exact Int.dvd_neg.2 (hd _ _ _ _ (by omega) (by omega) (by omega) (by omega))
  · have hd := (dvd_two M).1 (Int.dvd_refl (divV 3 2 M))
    refine unit_lat (fun i => if i = 0 then m2 M 1 2 0 1 else if i = 1 then -m2 M 0 2 0 1 else m2 M 0 1 0 1) hc (fun j hj => ?_) (fun i hi => ?_) (by omega) hs hss
    · rw [G3]
      rcases three hj with rfl | rfl | rfl <;> simp [sumTo, m2] <;> grind
    · rcases three hi with rfl | rfl | rfl
      · exact hd _ _ _ _ (by omega) (by omega) (by omega) (by omega)
      · exact Int.dvd_neg.2 (hd _ _ _ _ (by omega) (by omega) (by omega) (by omega))
      · exact hd _ _ _ _ (by omega) (by omega) (by omega) (by omega)
/-- turned rows -/
theorem flip_ok {n : Nat} {rows : List (List Int)} (h : HerOk n rows) : herErr (flipTo rows n n) = 0 ∧ partsTo n (fn (flipTo rows n n)) n = partsTo n (fn rows) n := by
  have hsq := sq_flip (n := n) rows
  have hfn : ∀ i j, i < n → j < n → fn (flipTo rows n n) i j = (fun i j => fn rows j i) i j := fun i j hi hj => fn_flipTo rows hi hj
  have hent : Ent 20 (flipTo rows n n) := ent_of (by omega) hsq fun i j hi hj => by
    rw [fn_flipTo rows hi hj]
    have := h.ent j i
    omega
  refine ⟨?_, partsTo_congr (m := 0) (fun k h0 hk => ?_) n (Nat.le_refl _)⟩
  · unfold herErr
    rw [if_pos (sqErr_of hsq h.pos (by have := h.le; omega) hent), hsq.1, G_congr (-1) n hfn, G_flip, if_neg h.det]
  · rw [div_congr h0 hk h.le hfn, div_flip h0 hk h.le]
/-- so many times the last factor -/
def allL (x : List Int) (d : Int) (l : Nat) : List Int := (List.range l).map fun i => x.getD i 0 * d
theorem allL_succ (x : List Int) (d : Int) (l : Nat) : allL x d (l + 1) = allL x d l ++ [x.getD l 0 * d] := by simp [allL, List.range_succ]
theorem allL_len (x : List Int) (d : Int) (l : Nat) : (allL x d l).length = l := by simp [allL]
theorem allL_at (x : List Int) (d : Int) (l : Nat) {c : Nat} (hc : c < l) : fnL (allL x d l) c = x.getD c 0 * d := by simp [fnL, allL, List.getD, hc]
theorem all_has {n : Nat} {rows : List (List Int)} (h : HerOk n rows) (he : herErr rows = 0) (x : List Int) : (anyOut (-100) 100 (allL x ((partsTo n (fn rows) n).getD (n - 1) 0) n) = true ∧ hasErr rows (allL x ((partsTo n (fn rows) n).getD (n - 1) 0) n) = 1) ∨
    (hasErr rows (allL x ((partsTo n (fn rows) n).getD (n - 1) 0) n) = 0 ∧ hasV rows (allL x ((partsTo n (fn rows) n).getD (n - 1) 0) n) = true) := by
  have hl := allL_len x ((partsTo n (fn rows) n).getD (n - 1) 0) n
  cases ha : anyOut (-100) 100 (allL x ((partsTo n (fn rows) n).getD (n - 1) 0) n)
  · right
    have e0 : hasErr rows (allL x ((partsTo n (fn rows) n).getD (n - 1) 0) n) = 0 := by
      unfold hasErr
      rw [if_neg (by omega), if_neg (by rw [hl, h.len]; omega), if_neg (by rw [ha]; decide)]
    refine ⟨e0, ?_⟩
    unfold hasV
    rw [if_pos e0, h.len]
    exact hasB_true (lat_congr (last_lat h (fun j => x.getD j 0)) (fun _ _ _ _ => rfl) fun j hj => (allL_at x _ n hj).symm)
  · left
    refine ⟨rfl, ?_⟩
    unfold hasErr
    rw [if_neg (by omega), if_neg (by rw [hl, h.len]; omega), if_pos ha]
end Go.Proofs.Ytllomialkiaccaa.SmT
