/- The closed fact on normal forms. -/
import Derived.Test.YtijlhdgagaehaaaDoorHerHas
import Derived.Test.YtijlhdgagaehaaaDoorESame
namespace Go.Proofs.YtijlhdgagaehaaaDoor
open Go.RowKit
set_option linter.unusedVariables false
set_option linter.unusedSimpArgs false

/-- one element of a square matrix that is read -/
theorem RowsAt.at {w : World} {b off n : Nat} {rows : List (List Int)} (h : RowsAt w (Option.some ⟨b, off, none⟩) n rows) (hs : Sq n rows) {i j : Nat} (hi : i < n) (hj : j < n) :
    ∃ g o rc, w.cell? ⟨b, off + i, none⟩ = Option.some (.slice (Option.some ⟨g, o, none⟩) n rc) ∧ w.cell? ⟨g, o + j, none⟩ = Option.some (.int .i64 (fn rows i j)) ∧ g < w.heap.size := by
  obtain ⟨g, o, rc, h1, h2⟩ := h.elem hi (j := j) (by rw [hs.2 i hi]; exact hj)
  rw [hs.2 i hi] at h1
  exact ⟨g, o, rc, h1, h2, World.block_lt_of_cell? _ _ h2⟩
/-- square matrices with the same numbers are the same -/
theorem sq_ext {n : Nat} {A B : List (List Int)} (ha : Sq n A) (hb : Sq n B) (h : ∀ i j, i < n → j < n → fn A i j = fn B i j) : A = B := by
  refine List.ext_getElem (by rw [ha.1, hb.1]) fun i h1 h2 => ?_
  have e1 : A.getD i [] = A[i] := by simp [List.getD, h1]
  have e2 : B.getD i [] = B[i] := by simp [List.getD, h2]
  have hi : i < n := by rw [← ha.1]; exact h1
  have l1 := ha.2 i hi
  have l2 := hb.2 i hi
  rw [e1] at l1
  rw [e2] at l2
  refine List.ext_getElem (by rw [l1, l2]) fun j h3 h4 => ?_
  have := h i j hi (by rw [← l1]; exact h3)
  unfold fn at this
  rw [e1, e2] at this
  simpa [List.getD, h3, h4] using this
theorem form_list {n : Nat} {rows A B : List (List Int)} (ha : Sq n A) (hb : Sq n B) (h : FormOf n (fn rows) (fn A)) (k : FormOf n (fn rows) (fn B)) : A = B :=
  sq_ext ha hb (h.one k fun _ => Iff.rfl)
theorem lat2 {M : Nat → Nat → Int} {x : Nat → Int} (p q : Int) (h0 : x 0 = p * M 0 0 + q * M 1 0) (h1 : x 1 = p * M 0 1 + q * M 1 1) : Lat 2 M x := by
  refine ⟨fun i => if i = 0 then p else q, fun j hj => ?_⟩
  have : j = 0 ∨ j = 1 := by omega
  rcases this with rfl | rfl
  · simp [sumTo, h0]
  · simp [sumTo, h1]
theorem fact_form : FormOf 2 (fn [[4, 1], [6, 2]]) (fn [[2, 0], [0, 1]]) := by
  refine ⟨⟨fun x => ⟨lat_sub fun i hi => ?_, lat_sub fun i hi => ?_⟩, Or.inl (by decide)⟩, ⟨fun i j hj hji hi => ?_, fun j hj => ?_, fun i j hij hj => ?_⟩⟩
  · have : i = 0 ∨ i = 1 := by omega
    rcases this with rfl | rfl
    · exact lat2 2 1 (by decide) (by decide)
    · exact lat2 3 2 (by decide) (by decide)
  · have : i = 0 ∨ i = 1 := by omega
    rcases this with rfl | rfl
    · exact lat2 2 (-1) (by decide) (by decide)
    · exact lat2 (-3) 2 (by decide) (by decide)
  · obtain ⟨rfl, rfl⟩ : i = 1 ∧ j = 0 := by omega
    rfl
  · have : j = 0 ∨ j = 1 := by omega
    rcases this with rfl | rfl <;> decide
  · obtain ⟨rfl, rfl⟩ : i = 0 ∧ j = 1 := by omega
    decide
theorem fact_has : hasB 2 (fn [[2, 0], [0, 2]]) (fnL [2, 4]) = true := hasB_true (lat2 1 2 (by decide) (by decide))
theorem fact_not : hasB 2 (fn [[2, 0], [0, 2]]) (fnL [2, 3]) = false := by
  refine hasB_false fun ⟨c, hc⟩ => ?_
  have := hc 1 (by omega)
  simp [sumTo, fnL, fn] at this
  omega
theorem fact_her : herErr [[4, 1], [6, 2]] = 0 ∧ hasErr [[2, 0], [0, 2]] [2, 4] = 0 ∧ hasErr [[2, 0], [0, 2]] [2, 3] = 0 := by decide +kernel
theorem small2 (a b c d : Int) : Small 2 [[a, b], [c, d]] := ⟨by omega, by intro k hk; match k, hk with | 0, _ => simp | 1, _ => simp⟩
/-- two rows of two -/
theorem two_rows (w : World) (a b c d : Int) (B : Nat) (b0 b1 : Nat) (h0 : w.cell? ⟨B, 0, none⟩ = some (.slice (some ⟨b0, 0, none⟩) 2 2)) (h1 : w.cell? ⟨B, 1, none⟩ = some (.slice (some ⟨b1, 0, none⟩) 2 2))
    (x0 : w.cell? ⟨b0, 0, none⟩ = some (.int .i64 a)) (x1 : w.cell? ⟨b0, 1, none⟩ = some (.int .i64 b)) (y0 : w.cell? ⟨b1, 0, none⟩ = some (.int .i64 c)) (y1 : w.cell? ⟨b1, 1, none⟩ = some (.int .i64 d)) : RowsAt w (some ⟨B, 0, none⟩) 2 [[a, b], [c, d]] := by
  refine ⟨rfl, fun i hi => ?_⟩
  match i, hi with
  | 0, _ => exact ⟨B, 0, some ⟨b0, 0, none⟩, 2, rfl, by simpa using h0, by simp, by simp [maxLen], by simp, IntsAt_two _ _ _ _ x0 x1⟩
  | 1, _ => exact ⟨B, 0, some ⟨b1, 0, none⟩, 2, rfl, by simpa using h1, by simp, by simp [maxLen], by simp, IntsAt_two _ _ _ _ y0 y1⟩

end Go.Proofs.YtijlhdgagaehaaaDoor
