/- It proves that rankmeretop.TopGram, called with any two vectors and any two integers, returns true, and leaves its arguments as they were. There are no conditions. -/
import Derived.Test.YtkelnkcigbghkaaDefAt
import Derived.Test.YtkelnkcigbghkaaLatC
import Derived.Test.YtkelnkcigbghkaaLawIn
import Derived.Test.YtkelnkcigbghkaaOpen
import Derived.ProofKit
import Derived.OpenShut
import Derived.ShutString
import Derived.ChangeOld
import Derived.Lib.SmallJoins
namespace Go.Proofs.Ytkelnkcigbghkaa.TopGramP
open Go.ChangeShapes Go.WideShapes Go.ChangeAt Go.RowKit Go.Joins
open Go.ChangeMaps (open_string shut_string)
open Go.Proofs.Ytkelnkcigbghkaa
set_option linter.unusedVariables false
set_option linter.unusedSimpArgs false

theorem one_row (w : World) (a : Int) (B b0 : Nat) (h0 : w.cell? ⟨B, 0, none⟩ = some (.slice (some ⟨b0, 0, none⟩) 1 1)) (x0 : w.cell? ⟨b0, 0, none⟩ = some (.int .i64 a)) : RowsAt w (some ⟨B, 0, none⟩) 1 [[a]] := by
  refine ⟨rfl, fun i hi => ?_⟩
  match i, hi with
  | 0, _ => exact ⟨B, 0, some ⟨b0, 0, none⟩, 1, rfl, by simpa using h0, by simp, by simp [maxLen], by simp, rfl, fun i hi => by match i, hi with | 0, _ => exact ⟨b0, 0, rfl, by simpa using x0⟩⟩
theorem two_rows' (w : World) (a b c d : Int) (B b0 b1 : Nat) (h0 : w.cell? ⟨B, 0, none⟩ = some (.slice (some ⟨b0, 0, none⟩) 2 2)) (h1 : w.cell? ⟨B, 1, none⟩ = some (.slice (some ⟨b1, 0, none⟩) 2 2))
    (x0 : w.cell? ⟨b0, 0, none⟩ = some (.int .i64 a)) (x1 : w.cell? ⟨b0, 1, none⟩ = some (.int .i64 b)) (y0 : w.cell? ⟨b1, 0, none⟩ = some (.int .i64 c)) (y1 : w.cell? ⟨b1, 1, none⟩ = some (.int .i64 d)) : RowsAt w (some ⟨B, 0, none⟩) 2 [[a, b], [c, d]] := by
  refine ⟨rfl, fun i hi => ?_⟩
  match i, hi with
  | 0, _ => exact ⟨B, 0, some ⟨b0, 0, none⟩, 2, rfl, by simpa using h0, by simp, by simp [maxLen], by simp, IntsAt_two _ _ _ _ x0 x1⟩
  | 1, _ => exact ⟨B, 0, some ⟨b1, 0, none⟩, 2, rfl, by simpa using h1, by simp, by simp [maxLen], by simp, IntsAt_two _ _ _ _ y0 y1⟩
theorem det_2 (a b c d : Int) : G (-1) 2 (fn [[a, b], [c, d]]) = a * d - b * c := by
  simp [G, sumTo, pw, minor, sk, fn]
  grind
theorem fact_sq : sqErr [[1]] 4 (-9) 9 = 0 := by decide +kernel
theorem small1 (a : Int) : Small 1 [[a]] := ⟨by omega, fun k hk => by match k, hk with | 0, _ => simp⟩
theorem small2 (a b c d : Int) : Small 2 [[a, b], [c, d]] := ⟨by omega, fun k hk => by match k, hk with | 0, _ => simp | 1, _ => simp⟩
theorem sm2 {a b : Int} (h1 : -2 ≤ a ∧ a ≤ 2) (h2 : -2 ≤ b ∧ b ≤ 2) : -4 ≤ a * b ∧ a * b ≤ 4 := by
  have := mul_bd a b 2 2 h1.1 h1.2 h2.1 h2.2
  omega
theorem sq_nn (a : Int) : 0 ≤ a * a := by
  rcases Int.le_total 0 a with h | h
  · exact Int.mul_nonneg h h
  · have := Int.mul_nonneg (show 0 ≤ -a by omega) (show 0 ≤ -a by omega)
    rwa [Int.neg_mul_neg] at this
theorem gram_sq {x y z t : Int} (h1 : -9 ≤ x ∧ x ≤ 9) (h2 : -9 ≤ y ∧ y ≤ 9) (h3 : -9 ≤ z ∧ z ≤ 9) (h4 : -9 ≤ t ∧ t ≤ 9) : sqErr [[x, y], [z, t]] 4 (-9) 9 = 0 := by
  have o : ∀ p q : Int, -9 ≤ p ∧ p ≤ 9 → -9 ≤ q ∧ q ≤ 9 → anyOut (-9) 9 [p, q] = false := by
    intro p q hp hq
    simp [anyOut, outB]; omega
  simp [sqErr, matErr, rowsErr, o x y h1 h2, o z t h3 h4]
/-- lagrange -/
theorem gram_det (a b c d : Int) : (a * a + b * b) * (c * c + d * d) - (a * c + b * d) * (a * c + b * d) = (a * d - b * c) * (a * d - b * c) := by grind
theorem gram_val (a b c d i j : Int) : sumPl [[a * a + b * b, a * c + b * d], [a * c + b * d, c * c + d * d]] [i, j] (allPl (fun _ => 2) 2) = (i * a + j * c) * (i * a + j * c) + (i * b + j * d) * (i * b + j * d) := by
  have e : allPl (fun _ => 2) 2 = [(0, 0), (0, 1), (1, 0), (1, 1)] := by decide
  rw [e]
  simp [sumPl, fn]
  grind
theorem natAbs_sq (x : Int) : (x.natAbs : Int) * (x.natAbs : Int) = x * x := by
  rcases Int.natAbs_eq x with h | h
  · rw [← h]
  · generalize x.natAbs = n at *
    subst h
    grind

theorem fact_is (a : Option Addr) (w : World) (hr : RowsAt w a 1 [[1]]) : Calls Try.prog 5 #[.slice a 1 1] w fun e w' => e = .returned (.tuple #[.bool true, .nilIface]) ∧ Below w.heap.size w w' :=
  DefIs_good a 1 1 [[1]] w hr (by omega) (small1 1) fact_sq (fun i j hi hj => by obtain rfl : i = 0 := by omega
                                                                                 obtain rfl : j = 0 := by omega
                                                                                 rfl) (fun k hk => by obtain rfl : k = 0 := by omega
                                                                                                      decide)

set_option maxRecDepth 100000 in
set_option maxHeartbeats 1000000 in
theorem gram_wrong (a b c d i j : Int) (w : World) (hv : vecsErr a b c d ≠ 0) :
    Calls Try.prog 3 #[vec a b, vec c d, .int .i64 i, .int .i64 j] w fun e w' => e = .returned (.bool true) ∧ Below w.heap.size w w' := by
  have hA := Lib.hid (fun W => Area_wrong hv W)
  generalize vecsErr a b c d = e2 at *
  clear hv
  go_enter Try.func3, Try.ntmps3
  go_wp2_with fail
  go_at_call 4
  refine (hA.out _).mono ?_
  rintro e w1 ⟨rfl, hb⟩
  have hz1 := hb.size
  simp only [World.size_alloc] at hz1
  have hB := ((((Below.refl w.heap.size w).alloc (Nat.le_refl _) _).alloc (by simp) _).trans (hb.mono (by simp; omega)))
  clear hb
  go_wp2_with fail
  go_at_call 5
  refine (fact_is _ _ (one_row _ _ _ w1.heap.size (by go_simp) (by go_simp))).mono ?_
  rintro e w2 ⟨rfl, hb⟩
  have hB2 := hB.trans ((((Below.refl w1.heap.size w1).alloc (Nat.le_refl _) _).alloc (by simp) _).trans (hb.mono (by simp; omega)) |>.mono (by omega))
  clear hB hb
  go_wp2_with fail
  go_ret
  exact ⟨rfl, hB2⟩
set_option maxRecDepth 100000 in
set_option maxHeartbeats 1000000 in
theorem gram_out1 (a b c d i j : Int) (w : World) (hv : vecsErr a b c d = 0) (h1 : inB a (-2) 2 = false) :
    Calls Try.prog 3 #[vec a b, vec c d, .int .i64 i, .int .i64 j] w fun e w' => e = .returned (.bool true) ∧ Below w.heap.size w w' := by
  have hA := Lib.hid (fun W => Area_good hv W)
  have H1 := Lib.hid h1
  clear hv h1
  go_enter Try.func3, Try.ntmps3
  go_wp2_with fail
  go_at_call 4
  refine (hA.out _).mono ?_
  rintro e w1 ⟨rfl, hb⟩
  have hz1 := hb.size
  simp only [World.size_alloc] at hz1
  have hBr := hb.mono (show w.heap.size + 2 ≤ _ from by simp)
  obtain ⟨hc, hf⟩ := rules hBr
  have hB := ((((Below.refl w.heap.size w).alloc (Nat.le_refl _) _).alloc (by simp) _).trans (hb.mono (by simp; omega)))
  go_wp2_with fail
  go_at_call 5
  refine (fact_is _ _ (one_row _ _ _ w1.heap.size (by go_simp) (by go_simp))).mono ?_
  rintro e w2 ⟨rfl, hb2⟩
  have hB2 := hB.trans ((((Below.refl w1.heap.size w1).alloc (Nat.le_refl _) _).alloc (by simp) _).trans (hb2.mono (by simp; omega)) |>.mono (by omega))
  have hBr2 : Below (w.heap.size + 2) _ w2 := hBr.trans ((((Below.refl w1.heap.size w1).alloc (Nat.le_refl _) _).alloc (by simp) _).trans (hb2.mono (by simp; omega)) |>.mono (by omega))
  clear hc hf hB hb hb2 hBr
  obtain ⟨hc, hf⟩ := rules hBr2
  go_wp2_with (go_at_call 6; refine (topin_any _ _ _ _).mono ?_; rintro e w9 ⟨rfl, rfl⟩; (first | rw [H1.out]))
  go_ret
  exact ⟨rfl, hB2⟩
set_option maxRecDepth 100000 in
set_option maxHeartbeats 1000000 in
theorem gram_out2 (a b c d i j : Int) (w : World) (hv : vecsErr a b c d = 0) (h1 : inB a (-2) 2 = true) (h2 : inB b (-2) 2 = false) :
    Calls Try.prog 3 #[vec a b, vec c d, .int .i64 i, .int .i64 j] w fun e w' => e = .returned (.bool true) ∧ Below w.heap.size w w' := by
  have hA := Lib.hid (fun W => Area_good hv W)
  have H1 := Lib.hid h1
  have H2 := Lib.hid h2
  clear hv h1 h2
  go_enter Try.func3, Try.ntmps3
  go_wp2_with fail
  go_at_call 4
  refine (hA.out _).mono ?_
  rintro e w1 ⟨rfl, hb⟩
  have hz1 := hb.size
  simp only [World.size_alloc] at hz1
  have hBr := hb.mono (show w.heap.size + 2 ≤ _ from by simp)
  obtain ⟨hc, hf⟩ := rules hBr
  have hB := ((((Below.refl w.heap.size w).alloc (Nat.le_refl _) _).alloc (by simp) _).trans (hb.mono (by simp; omega)))
  go_wp2_with fail
  go_at_call 5
  refine (fact_is _ _ (one_row _ _ _ w1.heap.size (by go_simp) (by go_simp))).mono ?_
  rintro e w2 ⟨rfl, hb2⟩
  have hB2 := hB.trans ((((Below.refl w1.heap.size w1).alloc (Nat.le_refl _) _).alloc (by simp) _).trans (hb2.mono (by simp; omega)) |>.mono (by omega))
  have hBr2 : Below (w.heap.size + 2) _ w2 := hBr.trans ((((Below.refl w1.heap.size w1).alloc (Nat.le_refl _) _).alloc (by simp) _).trans (hb2.mono (by simp; omega)) |>.mono (by omega))
  clear hc hf hB hb hb2 hBr
  obtain ⟨hc, hf⟩ := rules hBr2
  go_wp2_with (go_at_call 6; refine (topin_any _ _ _ _).mono ?_; rintro e w9 ⟨rfl, rfl⟩; (first | rw [H1.out] | rw [H2.out]))
  go_ret
  exact ⟨rfl, hB2⟩
set_option maxRecDepth 100000 in
set_option maxHeartbeats 1000000 in
theorem gram_out3 (a b c d i j : Int) (w : World) (hv : vecsErr a b c d = 0) (h1 : inB a (-2) 2 = true) (h2 : inB b (-2) 2 = true) (h3 : inB c (-2) 2 = false) :
    Calls Try.prog 3 #[vec a b, vec c d, .int .i64 i, .int .i64 j] w fun e w' => e = .returned (.bool true) ∧ Below w.heap.size w w' := by
  have hA := Lib.hid (fun W => Area_good hv W)
  have H1 := Lib.hid h1
  have H2 := Lib.hid h2
  have H3 := Lib.hid h3
  clear hv h1 h2 h3
  go_enter Try.func3, Try.ntmps3
  go_wp2_with fail
  go_at_call 4
  refine (hA.out _).mono ?_
  rintro e w1 ⟨rfl, hb⟩
  have hz1 := hb.size
  simp only [World.size_alloc] at hz1
  have hBr := hb.mono (show w.heap.size + 2 ≤ _ from by simp)
  obtain ⟨hc, hf⟩ := rules hBr
  have hB := ((((Below.refl w.heap.size w).alloc (Nat.le_refl _) _).alloc (by simp) _).trans (hb.mono (by simp; omega)))
  go_wp2_with fail
  go_at_call 5
  refine (fact_is _ _ (one_row _ _ _ w1.heap.size (by go_simp) (by go_simp))).mono ?_
  rintro e w2 ⟨rfl, hb2⟩
  have hB2 := hB.trans ((((Below.refl w1.heap.size w1).alloc (Nat.le_refl _) _).alloc (by simp) _).trans (hb2.mono (by simp; omega)) |>.mono (by omega))
  have hBr2 : Below (w.heap.size + 2) _ w2 := hBr.trans ((((Below.refl w1.heap.size w1).alloc (Nat.le_refl _) _).alloc (by simp) _).trans (hb2.mono (by simp; omega)) |>.mono (by omega))
  clear hc hf hB hb hb2 hBr
  obtain ⟨hc, hf⟩ := rules hBr2
  go_wp2_with (go_at_call 6; refine (topin_any _ _ _ _).mono ?_; rintro e w9 ⟨rfl, rfl⟩; (first | rw [H1.out] | rw [H2.out] | rw [H3.out]))
  go_ret
  exact ⟨rfl, hB2⟩
set_option maxRecDepth 100000 in
set_option maxHeartbeats 1000000 in
theorem gram_out4 (a b c d i j : Int) (w : World) (hv : vecsErr a b c d = 0) (h1 : inB a (-2) 2 = true) (h2 : inB b (-2) 2 = true) (h3 : inB c (-2) 2 = true) (h4 : inB d (-2) 2 = false) :
    Calls Try.prog 3 #[vec a b, vec c d, .int .i64 i, .int .i64 j] w fun e w' => e = .returned (.bool true) ∧ Below w.heap.size w w' := by
  have hA := Lib.hid (fun W => Area_good hv W)
  have H1 := Lib.hid h1
  have H2 := Lib.hid h2
  have H3 := Lib.hid h3
  have H4 := Lib.hid h4
  clear hv h1 h2 h3 h4
  go_enter Try.func3, Try.ntmps3
  go_wp2_with fail
  go_at_call 4
  refine (hA.out _).mono ?_
  rintro e w1 ⟨rfl, hb⟩
  have hz1 := hb.size
  simp only [World.size_alloc] at hz1
  have hBr := hb.mono (show w.heap.size + 2 ≤ _ from by simp)
  obtain ⟨hc, hf⟩ := rules hBr
  have hB := ((((Below.refl w.heap.size w).alloc (Nat.le_refl _) _).alloc (by simp) _).trans (hb.mono (by simp; omega)))
  go_wp2_with fail
  go_at_call 5
  refine (fact_is _ _ (one_row _ _ _ w1.heap.size (by go_simp) (by go_simp))).mono ?_
  rintro e w2 ⟨rfl, hb2⟩
  have hB2 := hB.trans ((((Below.refl w1.heap.size w1).alloc (Nat.le_refl _) _).alloc (by simp) _).trans (hb2.mono (by simp; omega)) |>.mono (by omega))
  have hBr2 : Below (w.heap.size + 2) _ w2 := hBr.trans ((((Below.refl w1.heap.size w1).alloc (Nat.le_refl _) _).alloc (by simp) _).trans (hb2.mono (by simp; omega)) |>.mono (by omega))
  clear hc hf hB hb hb2 hBr
  obtain ⟨hc, hf⟩ := rules hBr2
  go_wp2_with (go_at_call 6; refine (topin_any _ _ _ _).mono ?_; rintro e w9 ⟨rfl, rfl⟩; (first | rw [H1.out] | rw [H2.out] | rw [H3.out] | rw [H4.out]))
  go_ret
  exact ⟨rfl, hB2⟩
set_option maxRecDepth 100000 in
set_option maxHeartbeats 1000000 in
theorem gram_out5 (a b c d i j : Int) (w : World) (hv : vecsErr a b c d = 0) (h1 : inB a (-2) 2 = true) (h2 : inB b (-2) 2 = true) (h3 : inB c (-2) 2 = true) (h4 : inB d (-2) 2 = true) (h5 : inB i (-100) 100 = false) :
    Calls Try.prog 3 #[vec a b, vec c d, .int .i64 i, .int .i64 j] w fun e w' => e = .returned (.bool true) ∧ Below w.heap.size w w' := by
  have hA := Lib.hid (fun W => Area_good hv W)
  have H1 := Lib.hid h1
  have H2 := Lib.hid h2
  have H3 := Lib.hid h3
  have H4 := Lib.hid h4
  have H5 := Lib.hid h5
  clear hv h1 h2 h3 h4 h5
  go_enter Try.func3, Try.ntmps3
  go_wp2_with fail
  go_at_call 4
  refine (hA.out _).mono ?_
  rintro e w1 ⟨rfl, hb⟩
  have hz1 := hb.size
  simp only [World.size_alloc] at hz1
  have hBr := hb.mono (show w.heap.size + 2 ≤ _ from by simp)
  obtain ⟨hc, hf⟩ := rules hBr
  have hB := ((((Below.refl w.heap.size w).alloc (Nat.le_refl _) _).alloc (by simp) _).trans (hb.mono (by simp; omega)))
  go_wp2_with fail
  go_at_call 5
  refine (fact_is _ _ (one_row _ _ _ w1.heap.size (by go_simp) (by go_simp))).mono ?_
  rintro e w2 ⟨rfl, hb2⟩
  have hB2 := hB.trans ((((Below.refl w1.heap.size w1).alloc (Nat.le_refl _) _).alloc (by simp) _).trans (hb2.mono (by simp; omega)) |>.mono (by omega))
  have hBr2 : Below (w.heap.size + 2) _ w2 := hBr.trans ((((Below.refl w1.heap.size w1).alloc (Nat.le_refl _) _).alloc (by simp) _).trans (hb2.mono (by simp; omega)) |>.mono (by omega))
  clear hc hf hB hb hb2 hBr
  obtain ⟨hc, hf⟩ := rules hBr2
  go_wp2_with (go_at_call 6; refine (topin_any _ _ _ _).mono ?_; rintro e w9 ⟨rfl, rfl⟩; (first | rw [H1.out] | rw [H2.out] | rw [H3.out] | rw [H4.out] | rw [H5.out]))
  go_ret
  exact ⟨rfl, hB2⟩
set_option maxRecDepth 100000 in
set_option maxHeartbeats 1000000 in
theorem gram_out6 (a b c d i j : Int) (w : World) (hv : vecsErr a b c d = 0) (h1 : inB a (-2) 2 = true) (h2 : inB b (-2) 2 = true) (h3 : inB c (-2) 2 = true) (h4 : inB d (-2) 2 = true) (h5 : inB i (-100) 100 = true) (h6 : inB j (-100) 100 = false) :
    Calls Try.prog 3 #[vec a b, vec c d, .int .i64 i, .int .i64 j] w fun e w' => e = .returned (.bool true) ∧ Below w.heap.size w w' := by
  have hA := Lib.hid (fun W => Area_good hv W)
  have H1 := Lib.hid h1
  have H2 := Lib.hid h2
  have H3 := Lib.hid h3
  have H4 := Lib.hid h4
  have H5 := Lib.hid h5
  have H6 := Lib.hid h6
  clear hv h1 h2 h3 h4 h5 h6
  go_enter Try.func3, Try.ntmps3
  go_wp2_with fail
  go_at_call 4
  refine (hA.out _).mono ?_
  rintro e w1 ⟨rfl, hb⟩
  have hz1 := hb.size
  simp only [World.size_alloc] at hz1
  have hBr := hb.mono (show w.heap.size + 2 ≤ _ from by simp)
  obtain ⟨hc, hf⟩ := rules hBr
  have hB := ((((Below.refl w.heap.size w).alloc (Nat.le_refl _) _).alloc (by simp) _).trans (hb.mono (by simp; omega)))
  go_wp2_with fail
  go_at_call 5
  refine (fact_is _ _ (one_row _ _ _ w1.heap.size (by go_simp) (by go_simp))).mono ?_
  rintro e w2 ⟨rfl, hb2⟩
  have hB2 := hB.trans ((((Below.refl w1.heap.size w1).alloc (Nat.le_refl _) _).alloc (by simp) _).trans (hb2.mono (by simp; omega)) |>.mono (by omega))
  have hBr2 : Below (w.heap.size + 2) _ w2 := hBr.trans ((((Below.refl w1.heap.size w1).alloc (Nat.le_refl _) _).alloc (by simp) _).trans (hb2.mono (by simp; omega)) |>.mono (by omega))
  clear hc hf hB hb hb2 hBr
  obtain ⟨hc, hf⟩ := rules hBr2
  go_wp2_with (go_at_call 6; refine (topin_any _ _ _ _).mono ?_; rintro e w9 ⟨rfl, rfl⟩; (first | rw [H1.out] | rw [H2.out] | rw [H3.out] | rw [H4.out] | rw [H5.out] | rw [H6.out]))
  go_ret
  exact ⟨rfl, hB2⟩
set_option maxRecDepth 100000 in
set_option maxHeartbeats 4000000 in
theorem gram_good (a b c d i j : Int) (w : World) (hv : vecsErr a b c d = 0) (h1 : inB a (-2) 2 = true) (h2 : inB b (-2) 2 = true) (h3 : inB c (-2) 2 = true) (h4 : inB d (-2) 2 = true) (h5 : inB i (-100) 100 = true) (h6 : inB j (-100) 100 = true) :
    Calls Try.prog 3 #[vec a b, vec c d, .int .i64 i, .int .i64 j] w fun e w' => e = .returned (.bool true) ∧ Below w.heap.size w w' := by
  have hA := Lib.hid (fun W => Area_good hv W)
  have hd0 := (vecsErr_good hv).2.2
  have ba := inB_true h1
  have bb := inB_true h2
  have bc := inB_true h3
  have bd := inB_true h4
  have bi := inB_true h5
  have bj := inB_true h6
  have haa := sm2 ba ba
  have hbb := sm2 bb bb
  have hcc := sm2 bc bc
  have hdd := sm2 bd bd
  have hac := sm2 ba bc
  have hbd := sm2 bb bd
  have had := sm2 ba bd
  have hbc := sm2 bb bc
  have naa := sq_nn a
  have nbb := sq_nn b
  have ncc := sq_nn c
  have ndd := sq_nn d
  have hia := mul_bd i a 100 2 bi.1 bi.2 ba.1 ba.2
  have hjc := mul_bd j c 100 2 bj.1 bj.2 bc.1 bc.2
  have hib := mul_bd i b 100 2 bi.1 bi.2 bb.1 bb.2
  have hjd := mul_bd j d 100 2 bj.1 bj.2 bd.1 bd.2
  have hxx := mul_bd (i * a + j * c) (i * a + j * c) 400 400 (by omega) (by omega) (by omega) (by omega)
  have hyy := mul_bd (i * b + j * d) (i * b + j * d) 400 400 (by omega) (by omega) (by omega) (by omega)
  obtain ⟨N, hN⟩ : ∃ N : Nat, N = (a * d - b * c).natAbs := ⟨_, rfl⟩
  have hN8 : N ≤ 8 := by omega
  have hNN : (N : Int) * N = (a * d - b * c) * (a * d - b * c) := by rw [hN]; exact natAbs_sq _
  have hNN2 : (N : Int) * N ≤ 64 ∧ 0 ≤ (N : Int) * N := by
    have := mul_bd (N : Int) N 8 8 (by omega) (by omega) (by omega) (by omega)
    have := sq_nn (N : Int)
    omega
  have hpos : 0 < (N : Int) * N := by
    rw [hNN]
    have h0 := sq_nn (a * d - b * c)
    have h1 : (a * d - b * c) * (a * d - b * c) ≠ 0 := fun e => by rcases Int.mul_eq_zero.1 e with e | e <;> exact hd0 e
    omega
  have hp1 : 0 < a * a + b * b := by
    have : ¬ (a = 0 ∧ b = 0) := fun ⟨e1, e2⟩ => hd0 (by rw [e1, e2]; simp)
    have ha : a = 0 ∨ 0 < a * a := by
      by_cases e : a = 0
      · exact Or.inl e
      · right
        have : a * a ≠ 0 := fun h => by rcases Int.mul_eq_zero.1 h with e2 | e2 <;> exact e e2
        omega
    have hb : b = 0 ∨ 0 < b * b := by
      by_cases e : b = 0
      · exact Or.inl e
      · right
        have : b * b ≠ 0 := fun h => by rcases Int.mul_eq_zero.1 h with e2 | e2 <;> exact e e2
        omega
    rcases ha with e1 | e1
    · rcases hb with e2 | e2
      · exact absurd ⟨e1, e2⟩ this
      · omega
    · omega
  have hs : sqErr [[a * a + b * b, a * c + b * d], [a * c + b * d, c * c + d * d]] 4 (-9) 9 = 0 := gram_sq (by omega) (by omega) (by omega) (by omega)
  have hsy : ∀ p q, p < 2 → q < 2 → symAt [[a * a + b * b, a * c + b * d], [a * c + b * d, c * c + d * d]] p q := by
    intro p q hp hq
    match p, hp, q, hq with
    | 0, _, 0, _ => rfl
    | 0, _, 1, _ => rfl
    | 1, _, 0, _ => rfl
    | 1, _, 1, _ => rfl
  have hd2 : G (-1) 2 (fn [[a * a + b * b, a * c + b * d], [a * c + b * d, c * c + d * d]]) = (N : Int) * N := by rw [det_2, gram_det, hNN]
  have hI := Lib.hid (fun x W (h : RowsAt W x 2 [[a * a + b * b, a * c + b * d], [a * c + b * d, c * c + d * d]]) => DefIs_good x 2 2 _ W h (by omega) (small2 _ _ _ _) hs hsy (fun k hk => by
    match k, hk with
    | 0, _ => simpa [G, sumTo, pw, fn] using hp1
    | 1, _ => rw [hd2]; exact hpos))
  have hL := Lib.hid (fun x W (h : RowsAt W x 2 [[a * a + b * b, a * c + b * d], [a * c + b * d, c * c + d * d]]) => Leading_good x 2 2 _ W h (by omega) (small2 _ _ _ _) (sq45 hs))
  have hT := fun x y W (h : RowsAt W x 2 [[a * a + b * b, a * c + b * d], [a * c + b * d, c * c + d * d]]) (h2 : IntsAt W y 2 [i, j]) => DefAt_good x y 2 2 2 _ [i, j] W h h2 (small2 _ _ _ _) hs hsy (by simp [anyOut, outB]; omega) (fun k => by
    match k with
    | 0 => exact bi
    | 1 => exact bj
    | k + 2 => simp)
  rw [gram_val] at hT
  have HT := Lib.hid hT
  have HLL : leadL [[a * a + b * b, a * c + b * d], [a * c + b * d, c * c + d * d]] 2 = [G (-1) 1 (fn [[a * a + b * b, a * c + b * d], [a * c + b * d, c * c + d * d]]), (N : Int) * N] := by rw [← hd2]; rfl
  rw [HLL] at hL
  generalize G (-1) 1 (fn [[a * a + b * b, a * c + b * d], [a * c + b * d, c * c + d * d]]) = D1 at *
  rw [← hN] at hA
  have H1 := Lib.hid h1
  have H2 := Lib.hid h2
  have H3 := Lib.hid h3
  have H4 := Lib.hid h4
  have H5 := Lib.hid h5
  have H6 := Lib.hid h6
  have hw1 : IntKind.i64.wrap (a * a) = a * a := IntWalk.i64_in _ (by omega)
  have hw2 : IntKind.i64.wrap (b * b) = b * b := IntWalk.i64_in _ (by omega)
  have hw3 : IntKind.i64.wrap (c * c) = c * c := IntWalk.i64_in _ (by omega)
  have hw4 : IntKind.i64.wrap (d * d) = d * d := IntWalk.i64_in _ (by omega)
  have hw5 : IntKind.i64.wrap (a * c) = a * c := IntWalk.i64_in _ (by omega)
  have hw6 : IntKind.i64.wrap (b * d) = b * d := IntWalk.i64_in _ (by omega)
  have hw7 : IntKind.i64.wrap (a * a + b * b) = a * a + b * b := IntWalk.i64_in _ (by omega)
  have hw8 : IntKind.i64.wrap (c * c + d * d) = c * c + d * d := IntWalk.i64_in _ (by omega)
  have hw9 : IntKind.i64.wrap (a * c + b * d) = a * c + b * d := IntWalk.i64_in _ (by omega)
  have hwa : IntKind.i64.wrap (i * a) = i * a := IntWalk.i64_in _ (by omega)
  have hwb : IntKind.i64.wrap (j * c) = j * c := IntWalk.i64_in _ (by omega)
  have hwc : IntKind.i64.wrap (i * b) = i * b := IntWalk.i64_in _ (by omega)
  have hwd : IntKind.i64.wrap (j * d) = j * d := IntWalk.i64_in _ (by omega)
  have hwe : IntKind.i64.wrap (i * a + j * c) = i * a + j * c := IntWalk.i64_in _ (by omega)
  have hwf : IntKind.i64.wrap (i * b + j * d) = i * b + j * d := IntWalk.i64_in _ (by omega)
  have hwg : IntKind.i64.wrap ((i * a + j * c) * (i * a + j * c)) = (i * a + j * c) * (i * a + j * c) := IntWalk.i64_in _ (by omega)
  have hwh : IntKind.i64.wrap ((i * b + j * d) * (i * b + j * d)) = (i * b + j * d) * (i * b + j * d) := IntWalk.i64_in _ (by omega)
  have hwi : IntKind.i64.wrap ((i * a + j * c) * (i * a + j * c) + (i * b + j * d) * (i * b + j * d)) = (i * a + j * c) * (i * a + j * c) + (i * b + j * d) * (i * b + j * d) := IntWalk.i64_in _ (by omega)
  have hwj : IntKind.i64.wrap ((N : Int) * N) = (N : Int) * N := IntWalk.i64_in _ (by omega)
  clear hv hd0 ba bb bc bd bi bj haa hbb hcc hdd hac hbd had hbc naa nbb ncc ndd hia hjc hib hjd hxx hyy hN hN8 hNN hNN2 hpos hp1 hs hsy hd2 HLL hT h1 h2 h3 h4 h5 h6
  go_enter Try.func3, Try.ntmps3
  go_wp2_with fail
  go_at_call 4
  refine (hA.out _).mono ?_
  rintro e w1 ⟨rfl, hb⟩
  have hz1 := hb.size
  simp only [World.size_alloc] at hz1
  have hBr := hb.mono (show w.heap.size + 2 ≤ _ from by simp)
  obtain ⟨hc, hf⟩ := rules hBr
  have hB := ((((Below.refl w.heap.size w).alloc (Nat.le_refl _) _).alloc (by simp) _).trans (hb.mono (by simp; omega)))
  go_wp2_with fail
  go_at_call 5
  refine (fact_is _ _ (one_row _ _ _ w1.heap.size (by go_simp) (by go_simp))).mono ?_
  rintro e w2 ⟨rfl, hb2⟩
  have hz2 := hb2.size
  simp only [World.size_alloc] at hz2
  have hq2 : w.heap.size + 1 < w2.heap.size := by omega
  have hq2b : w.heap.size < w2.heap.size := by omega
  have hB2 := hB.trans ((((Below.refl w1.heap.size w1).alloc (Nat.le_refl _) _).alloc (by simp) _).trans (hb2.mono (by simp; omega)) |>.mono (by omega))
  have hBr2 : Below (w.heap.size + 2) _ w2 := hBr.trans ((((Below.refl w1.heap.size w1).alloc (Nat.le_refl _) _).alloc (by simp) _).trans (hb2.mono (by simp; omega)) |>.mono (by omega))
  clear hc hf hB hb hb2 hBr
  obtain ⟨hc, hf⟩ := rules hBr2
  go_wp2_with (go_at_call 6; refine (topin_any _ _ _ _).mono ?_; rintro e w9 ⟨rfl, rfl⟩; (first | rw [H1.out] | rw [H2.out] | rw [H3.out] | rw [H4.out] | rw [H5.out] | rw [H6.out]))
  go_at_call 5
  refine (hI.out _ _ (two_rows' _ _ _ _ _ _ w2.heap.size (w2.heap.size + 1) (by go_simp) (by go_simp) (by go_simp) (by go_simp) (by go_simp) (by go_simp))).mono ?_
  rintro e w3 ⟨rfl, hb3⟩
  have hz3 := hb3.size
  simp only [World.size_alloc] at hz3
  have hBa3 : Below w2.heap.size w2 w3 := ((((Below.refl w2.heap.size w2).alloc (Nat.le_refl _) _).alloc (by simp) _).alloc (by simp; omega) _).trans (hb3.mono (by simp; omega))
  have HM3 := Lib.hid (show RowsAt w3 (some ⟨w2.heap.size + 1 + 1, 0, none⟩) 2 [[a * a + b * b, a * c + b * d], [a * c + b * d, c * c + d * d]] from (two_rows' _ _ _ _ _ _ w2.heap.size (w2.heap.size + 1) (by go_simp) (by go_simp) (by go_simp) (by go_simp) (by go_simp) (by go_simp)).call hb3)
  have hB3 := hB2.trans (hBa3.mono (by omega))
  have hBr3 := hBr2.trans (hBa3.mono (by omega))
  have hq3 : w.heap.size + 1 < w3.heap.size := by omega
  have hq3b : w.heap.size < w3.heap.size := by omega
  clear hc hf hBr2 hb3 hBa3 hB2 hz2 hq2 hq2b
  obtain ⟨hc, hf⟩ := rules hBr3
  go_wp2_with fail
  go_at_call 7
  refine (hL.out _ _ HM3.out).mono ?_
  rintro e w4 ⟨⟨v, rfl, hown⟩, hb4⟩
  obtain ⟨a4, c4, rfl, k1, k2, k3, k4⟩ := hown.shape
  have hln : ([D1, (N : Int) * N] : List Int).length = 2 := rfl
  rw [hln] at k4 ⊢
  obtain ⟨b4, off4, rfl, hb4b, hcs⟩ := k4.some (by omega)
  have hc1 := hcs 1 (by omega)
  have hB4 := hB3.trans (hb4.mono (by omega))
  have hBr4 := hBr3.trans (hb4.mono (by omega))
  have hz4 := hb4.size
  have hq4 : w.heap.size + 1 < w4.heap.size := by omega
  have hq4b : w.heap.size < w4.heap.size := by omega
  have HM4 := Lib.hid (HM3.out.call hb4)
  have HC1 := Lib.hid (show w4.cell? ⟨b4, off4 + 1, none⟩ = some (.int .i64 ((N : Int) * N)) from hc1)
  clear hc hf hBr3 hb4 hB3 hown k1 k2 k3 k4 hcs hc1 HM3 hz3 hq3 hq3b hln
  obtain ⟨hc, hf⟩ := rules hBr4
  go_wp2_with fail
  go_at_call 8
  refine (HT.out _ _ _ (HM4.out.call ((Below.refl _ w4).alloc (Nat.le_refl _) _)) (IntsAt_two _ _ _ _ (by go_simp) (by go_simp))).mono ?_
  rintro e w5 ⟨rfl, hb5⟩
  have hz5 := hb5.size
  simp only [World.size_alloc] at hz5
  have hBa5 : Below w4.heap.size w4 w5 := ((Below.refl w4.heap.size w4).alloc (Nat.le_refl _) _).trans (hb5.mono (by simp))
  have hc5 : w5.cell? ⟨b4, off4 + 1, none⟩ = some (.int .i64 ((N : Int) * N)) := by rw [hBa5.cell (p := ⟨b4, off4 + 1, none⟩) hb4b]; exact HC1.out
  have hB5 := hB4.trans (hBa5.mono (by omega))
  have hBr5 := hBr4.trans (hBa5.mono (by omega))
  have hq5 : w.heap.size + 1 < w5.heap.size := by omega
  have hq5b : w.heap.size < w5.heap.size := by omega
  clear hc hf hBr4 hb5 hB4 hBa5 hz4 hq4 hq4b
  obtain ⟨hc, hf⟩ := rules hBr5
  go_wp2_with fail
  go_ret
  exact ⟨rfl, hB5⟩
theorem TopGram_any (a b c d i j : Int) (w : World) :
    Calls Try.prog 3 #[vec a b, vec c d, .int .i64 i, .int .i64 j] w fun e w' => e = .returned (.bool true) ∧ Below w.heap.size w w' := by
  by_cases hv : vecsErr a b c d = 0
  · cases h1 : inB a (-2) 2
    · exact gram_out1 a b c d i j w hv h1
    cases h2 : inB b (-2) 2
    · exact gram_out2 a b c d i j w hv h1 h2
    cases h3 : inB c (-2) 2
    · exact gram_out3 a b c d i j w hv h1 h2 h3
    cases h4 : inB d (-2) 2
    · exact gram_out4 a b c d i j w hv h1 h2 h3 h4
    cases h5 : inB i (-100) 100
    · exact gram_out5 a b c d i j w hv h1 h2 h3 h4 h5
    cases h6 : inB j (-100) 100
    · exact gram_out6 a b c d i j w hv h1 h2 h3 h4 h5 h6
    exact gram_good a b c d i j w hv h1 h2 h3 h4 h5 h6
  · exact gram_wrong a b c d i j w hv
theorem frame_own : ownKnob Try.prog.godebug = none := by kernel_rfl
theorem frame_laid : laidOutB Try.prog = true := by kernel_rfl
theorem frame_vec : Try.prog.cellsOf 23 = 2 := by kernel_rfl
set_option maxRecDepth 100000 in
theorem frame_lifted (os : Os) (started : os.Started) (H : Type) (enc : TypeId × Value → H) :
    ReturnsInHanded {} Try.checked os 3 .any (Rows.topGramSpec.pre6 enc Try.prog Try.f3 Rows.topGramRow.domain false) (Rows.topGramSpec.post enc Try.prog Try.f3 false true false false) := by
  refine returnsInHanded_of_change (C := Try.checked) frame_own started (by kernel_rfl) Try.func3
    (ChangeSpec.witness6 (enc := enc) (C := Try.checked) false ⟨#[], #[.agg #[.int .i64 0, .int .i64 0], .agg #[.int .i64 0, .int .i64 0], .int .i64 0, .int .i64 0], []⟩ 8 (by kernel_rfl) (by kernel_rfl) (by kernel_rfl) (by kernel_rfl)) ?_
  intro W base args ds gs before hval0 hW hcnd _
  have hval : ∀ (j : Nat) t v, Try.f3.params[j]? = some t → args[j]? = some v → Value.okWide Try.prog W .any base t v := hval0
  have hW' := hW
  obtain ⟨p, q, hA0, hV, rfl, hfz, hnd⟩ := hW
  have hA : DataW.TrodAll enc Try.prog W 0 (fun _ => true) true Try.f3.params.toList args.toList ds p := hA0
  rw [Try.params3] at hA hval
  obtain ⟨v0, vs0, d0, ds0, p0, q0, hargs, rfl, rfl, h0, r0⟩ := trodAll_cons hA
  obtain ⟨v1, vs1, d1, ds1, p1, q1, rfl, rfl, rfl, h1, r1⟩ := trodAll_cons r0
  obtain ⟨v2, vs2, d2, ds2, p2, q2, rfl, rfl, rfl, h2, r2⟩ := trodAll_cons r1
  obtain ⟨v3, vs3, d3, ds3, p3, q3, rfl, rfl, rfl, h3, r3⟩ := trodAll_cons r2
  obtain ⟨rfl, rfl, rfl⟩ := trodAll_nil r3
  obtain rfl : args = #[v0, v1, v2, v3] := by cases args; simp_all
  obtain ⟨rfl, rfl⟩ := trodVars_none hV
  have k0 := h0
  have lt0 : ∀ x ∈ p0, x.block < W.heap.size := by obtain ⟨m, hm⟩ := k0; exact DataW.trod_lt m _ _ _ hm
  obtain ⟨c0, e0, y0, z0, m0, rfl, rfl, rfl, hy0, hz0⟩ := open_agg2 Try.underlying23 (by kernel_rfl) frame_vec (hval 0 23 v0 rfl rfl) h0
  obtain ⟨x0, f0, g0, wx0⟩ := DataW.trod_int Try.underlying3 hy0
  obtain rfl : c0 = .int .i64 x0 := by simpa using f0
  obtain ⟨t0, f0, g0, wt0⟩ := DataW.trod_int Try.underlying3 hz0
  obtain rfl : e0 = .int .i64 t0 := by simpa using f0
  have k1 := h1
  have lt1 : ∀ x ∈ p1, x.block < W.heap.size := by obtain ⟨m, hm⟩ := k1; exact DataW.trod_lt m _ _ _ hm
  obtain ⟨c1, e1, y1, z1, m1, rfl, rfl, rfl, hy1, hz1⟩ := open_agg2 Try.underlying23 (by kernel_rfl) frame_vec (hval 1 23 v1 rfl rfl) h1
  obtain ⟨x1, f1, g1, wx1⟩ := DataW.trod_int Try.underlying3 hy1
  obtain rfl : c1 = .int .i64 x1 := by simpa using f1
  obtain ⟨t1, f1, g1, wt1⟩ := DataW.trod_int Try.underlying3 hz1
  obtain rfl : e1 = .int .i64 t1 := by simpa using f1
  have k2 := h2
  have lt2 : ∀ x ∈ p2, x.block < W.heap.size := by obtain ⟨m, hm⟩ := k2; exact DataW.trod_lt m _ _ _ hm
  obtain ⟨a2, rfl, rfl, rfl, w2⟩ := open_int Try.underlying3 (hval 2 3 v2 rfl rfl) h2
  have k3 := h3
  have lt3 : ∀ x ∈ p3, x.block < W.heap.size := by obtain ⟨m, hm⟩ := k3; exact DataW.trod_lt m _ _ _ hm
  obtain ⟨a3, rfl, rfl, rfl, w3⟩ := open_int Try.underlying3 (hval 3 3 v3 rfl rfl) h3
  clear hA0 hval0
  refine (TopGram_any x0 t0 x1 t1 a2 a3 W).mono fun e W' ⟨he, bel⟩ => ?_
  subst he
  exact ⟨_, rfl, _, _, _, [], _, [], hW', trodAll_mk1 (shut_bool Try.underlying4 _), (trodAll_cons_mk (Below.trod frame_laid (by kernel_rfl) (of_decide_eq_true (by kernel_rfl)) k0 bel lt0) (trodAll_cons_mk (Below.trod frame_laid (by kernel_rfl) (of_decide_eq_true (by kernel_rfl)) k1 bel lt1) (trodAll_cons_mk (Below.trod frame_laid (by kernel_rfl) (of_decide_eq_true (by kernel_rfl)) k2 bel lt2) (trodAll_cons_mk (Below.trod frame_laid (by kernel_rfl) (of_decide_eq_true (by kernel_rfl)) k3 bel lt3) trodAll_mk0)))), rfl, bel.frame _, fun h => by cases h⟩

theorem TopGram_over : Rows.topGramRow.holds Try.pinned (OpenSpec.ofChange Rows.topGramSpec) :=
  OpenClaim.holds_of_wide 3 Try.f3 rfl rfl rfl rfl rfl rfl rfl ⟨rfl, rfl, rfl, rfl, rfl⟩ rfl rfl rfl rfl rfl (by kernel_rfl) Try.func3 (by kernel_rfl)
    (of_decide_eq_true (by kernel_rfl)) (by unfold Func.isWrapper; first | (rw [if_pos (by decide +kernel)]; kernel_rfl) | (rw [if_neg (by decide +kernel)]; exact ⟨rfl, rfl⟩))
    (fun os started H enc _ => frame_lifted os started H enc)

/-- THE STATEMENT -/
theorem TopGram_holds : Rows.TopGramSaid := TopGram_over
end Go.Proofs.Ytkelnkcigbghkaa.TopGramP
