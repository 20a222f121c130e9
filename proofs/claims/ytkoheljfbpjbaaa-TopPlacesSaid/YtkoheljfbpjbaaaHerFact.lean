/- The closed fact on normal forms. -/
import Derived.Test.YtkoheljfbpjbaaaHerHas
import Derived.Test.YtkoheljfbpjbaaaESame
namespace Go.Proofs.Ytkoheljfbpjbaaa
open Go.RowKit
set_option linter.unusedVariables false
set_option linter.unusedSimpArgs false

/-- one element of a square matrix that is read -/
theorem RowsAt.at {w : World} {b off n : Nat} {rows : List (List Int)} (h : RowsAt w (Option.some ⟨b, off, none⟩) n rows) (hs : Sq n rows) {i j : Nat} (hi : i < n) (hj : j < n) :
    ∃ g o rc, w.cell? ⟨b, off + i, none⟩ = Option.some (.slice (Option.some ⟨g, o, none⟩) n rc) ∧ w.cell? ⟨g, o + j, none⟩ = Option.some (.int .i64 (fn rows i j)) ∧ g < w.heap.size := by
  obtain ⟨g, o, rc, h1, h2⟩ := h.elem hi (j := j) (by rw [hs.2 i hi]; exact hj)
  rw [hs.2 i hi] at h1
  exact ⟨g, o, rc, h1, h2, World.block_lt_of_cell? _ _ h2⟩
/-- square matrices with the same numbers are the same -/
theorem sq_ext {n : Nat} {A B : List (List Int)} (ha : Sq n A) (hb : Sq n B) (h : ∀ i j, i < n → j < n → fn A i j = fn B i j) : A = B := by
  refine List.ext_getElem (by rw [ha.1, hb.1]) fun i h1 h2 => ?_
  have e1 : A.getD i [] = A[i] := by simp [List.getD, h1]
  have e2 : B.getD i [] = B[i] := by simp [List.getD, h2]
  have hi : i < n := by rw [← ha.1]; exact h1
  have l1 := ha.2 i hi
  have l2 := hb.2 i hi
  rw [e1] at l1
  rw [e2] at l2
  refine List.ext_getElem (by rw [l1, l2]) fun j h3 h4 => ?_
  have := h i j hi (by rw [← l1]; exact h3)
  unfold fn at this
  rw [e1, e2] at this
  simpa [List.getD, h3, h4] using this
theorem form_list {n : Nat} {rows A B : List (List Int)} (ha : Sq n A) (hb : Sq n B) (h : FormOf n (fn rows) (fn A)) (k : FormOf n (fn rows) (fn B)) : A = B :=
  sq_ext ha hb (h.one k fun _ => Iff.rfl)
theorem lat2 {M : Nat → Nat → Int} {x : Nat → Int} (p q : Int) (h0 : x 0 = p * M 0 0 + q * M 1 0) (h1 : x 1 = p * M 0 1 + q * M 1 1) : Lat 2 M x := by
  refine ⟨fun i => if i = 0 then p else q, fun j hj => ?_⟩
  have : j = 0 ∨ j = 1 := by omega
  rcases this with rfl | rfl
  · simp [sumTo, h0]
  · simp [sumTo, h1]
theorem fact_form : FormOf 2 (fn [[4, 1], [6, 2]]) (fn [[2, 0], [0, 1]]) := by
  refine ⟨⟨fun x => ⟨lat_sub fun i hi => ?_, lat_sub fun i hi => ?_⟩, Or.inl (by decide)⟩, ⟨fun i j hj hji hi => ?_, fun j hj => ?_, fun i j hij hj => ?_⟩⟩
  · have : i = 0 ∨ i = 1 := by omega
    rcases this with rfl | rfl
    · exact lat2 2 1 (by decide) (by decide)
    · exact lat2 3 2 (by decide) (by decide)
  · have : i = 0 ∨ i = 1 := by omega
    rcases this with rfl | rfl
    · exact lat2 2 (-1) (by decide) (by decide)
    · exact lat2 (-3) 2 (by decide) (by decide)
  · obtain ⟨rfl, rfl⟩ : i = 1 ∧ j = 0 := by omega
    rfl
  · have : j = 0 ∨ j = 1 := by omega
    rcases this with rfl | rfl <;> decide
  · obtain ⟨rfl, rfl⟩ : i = 0 ∧ j = 1 := by omega
    decide
theorem fact_has : hasB 2 (fn [[2, 0], [0, 2]]) (fnL [2, 4]) = true := hasB_true (lat2 1 2 (by decide) (by decide))
theorem fact_not : hasB 2 (fn [[2, 0], [0, 2]]) (fnL [2, 3]) = false := by
  refine hasB_false fun ⟨c, hc⟩ => ?_
  have := hc 1 (by omega)
  simp [sumTo, fnL, fn] at this
  omega
theorem fact_her : herErr [[4, 1], [6, 2]] = 0 ∧ hasErr [[2, 0], [0, 2]] [2, 4] = 0 ∧ hasErr [[2, 0], [0, 2]] [2, 3] = 0 := by decide +kernel
theorem small2 (a b c d : Int) : Small 2 [[a, b], [c, d]] := ⟨by omega, by intro k hk; match k, hk with | 0, _ => simp | 1, _ => simp⟩
/-- two rows of two -/
theorem two_rows (w : World) (a b c d : Int) (B : Nat) (b0 b1 : Nat) (h0 : w.cell? ⟨B, 0, none⟩ = some (.slice (some ⟨b0, 0, none⟩) 2 2)) (h1 : w.cell? ⟨B, 1, none⟩ = some (.slice (some ⟨b1, 0, none⟩) 2 2))
    (x0 : w.cell? ⟨b0, 0, none⟩ = some (.int .i64 a)) (x1 : w.cell? ⟨b0, 1, none⟩ = some (.int .i64 b)) (y0 : w.cell? ⟨b1, 0, none⟩ = some (.int .i64 c)) (y1 : w.cell? ⟨b1, 1, none⟩ = some (.int .i64 d)) : RowsAt w (some ⟨B, 0, none⟩) 2 [[a, b], [c, d]] := by
  refine ⟨rfl, fun i hi => ?_⟩
  match i, hi with
  | 0, _ => exact ⟨B, 0, some ⟨b0, 0, none⟩, 2, rfl, by simpa using h0, by simp, by simp [maxLen], by simp, IntsAt_two _ _ _ _ x0 x1⟩
  | 1, _ => exact ⟨B, 0, some ⟨b1, 0, none⟩, 2, rfl, by simpa using h1, by simp, by simp [maxLen], by simp, IntsAt_two _ _ _ _ y0 y1⟩

set_option maxHeartbeats 1000000 in
theorem hermiteFact_any (w : World) :
    Calls Try.prog 10 #[] w fun e w' => e = .returned (.bool true) ∧ Below w.heap.size w w' := by
  obtain ⟨e1, e2, e3⟩ := fact_her
  have hF := Lib.hid (fun a W (h : RowsAt W a 2 [[4, 1], [6, 2]]) => FormFn_good a 2 2 [[4, 1], [6, 2]] W h (by omega) (small2 _ _ _ _) e1)
  have hA := Lib.hid (fun a b W (h : RowsAt W a 2 [[2, 0], [0, 2]]) (h2 : IntsAt W b 2 [2, 4]) => Has_good a b 2 2 2 2 [[2, 0], [0, 2]] [2, 4] W h h2 (by omega) (small2 _ _ _ _) e2)
  have hB := Lib.hid (fun a b W (h : RowsAt W a 2 [[2, 0], [0, 2]]) (h2 : IntsAt W b 2 [2, 3]) => Has_good a b 2 2 2 2 [[2, 0], [0, 2]] [2, 3] W h h2 (by omega) (small2 _ _ _ _) e3)
  rw [fact_has] at hA
  rw [fact_not] at hB
  clear e1 e2 e3
  go_enter Try.func10, Try.ntmps10
  go_wp2_with fail
  go_at_call 11
  refine (hF.out _ _ (two_rows _ _ _ _ _ _ w.heap.size (w.heap.size + 1) (by go_simp) (by go_simp) (by go_simp) (by go_simp) (by go_simp) (by go_simp))).mono ?_
  rintro e w1 ⟨⟨G', T, rfl, hT1, hT2, hT3⟩, hb⟩
  have hB1 := below_trans ((((Below.refl w.heap.size w).alloc (Nat.le_refl _) _).alloc (by simp) _).alloc (by simp; omega) _) hb
  obtain rfl : T = [[2, 0], [0, 1]] := form_list hT2 ⟨rfl, fun i hi => by match i, hi with | 0, _ => rfl | 1, _ => rfl⟩ hT3 fact_form
  have HT := Lib.hid hT1
  clear hb hF hT1 hT2 hT3
  go_wp2_with fail
  go_at_call 15
  refine (hA.out _ _ _ (two_rows _ _ _ _ _ _ w1.heap.size (w1.heap.size + 1) (by go_simp) (by go_simp) (by go_simp) (by go_simp) (by go_simp) (by go_simp)) (IntsAt_two _ _ _ _ (by go_simp) (by go_simp))).mono ?_
  rintro e w2 ⟨rfl, hb⟩
  have hB2 : Below w1.heap.size w1 w2 := below_trans (((((Below.refl w1.heap.size w1).alloc (Nat.le_refl _) _).alloc (by simp) _).alloc (by simp; omega) _).alloc (by simp; omega) _) hb
  have HT2 := Lib.hid (HT.out.call hB2)
  have hB3 := below_trans hB1 hB2
  clear hb hA HT hB1 hB2
  go_wp2_with fail
  go_at_call 15
  refine (hB.out _ _ _ (two_rows _ _ _ _ _ _ w2.heap.size (w2.heap.size + 1) (by go_simp) (by go_simp) (by go_simp) (by go_simp) (by go_simp) (by go_simp)) (IntsAt_two _ _ _ _ (by go_simp) (by go_simp))).mono ?_
  rintro e w3 ⟨rfl, hb⟩
  have hB4 : Below w2.heap.size w2 w3 := below_trans (((((Below.refl w2.heap.size w2).alloc (Nat.le_refl _) _).alloc (by simp) _).alloc (by simp; omega) _).alloc (by simp; omega) _) hb
  have HT3 := Lib.hid (HT2.out.call hB4)
  have hB5 := below_trans hB3 hB4
  clear hb hB HT2 hB3 hB4
  go_wp2_with fail
  go_at_call 18
  have hba : Below w3.heap.size w3 (((w3.alloc (.cells #[.int .i64 2, .int .i64 0] 3)).alloc (.cells #[.int .i64 0, .int .i64 1] 3)).alloc (.cells #[.slice (some ⟨w3.heap.size, 0, none⟩) 2 2, .slice (some ⟨w3.heap.size + 1, 0, none⟩) 2 2] 28)) := (((Below.refl w3.heap.size w3).alloc (Nat.le_refl _) _).alloc (by simp) _).alloc (by simp; omega) _
  refine (ERows_like _ _ 2 _ _ _ _ (HT3.out.call hba) (two_rows _ _ _ _ _ _ w3.heap.size (w3.heap.size + 1) (by go_simp) (by go_simp) (by go_simp) (by go_simp) (by go_simp) (by go_simp)) (by omega) (by intro k hk; match k, hk with | 0, _ => simp | 1, _ => simp)).mono ?_
  rintro e w4 ⟨rfl, hb⟩
  go_wp2_with fail
  go_ret
  exact ⟨rfl, below_trans hB5 (below_trans hba hb)⟩
end Go.Proofs.Ytkoheljfbpjbaaa
