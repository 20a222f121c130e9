/- It proves that rankmerelaw4.LatticeSays, called with any three vectors, returns true, and leaves its arguments as they were. The one condition: errors.errorType is as the program's text lays it; the card ties it. -/
import Derived.Test.YtkfkfpfcghobfaaDoorHShort
import Derived.Test.YtkfkfpfcghobfaaDoorHVecs
import Derived.Test.YtkfkfpfcghobfaaDoorHSum
import Derived.Test.YtkfkfpfcghobfaaDoorAlg
import Derived.Test.YtkfkfpfcghobfaaDoorTold
import Derived.Test.YtkfkfpfcghobfaaDoorLawIn
import Derived.Test.YtkfkfpfcghobfaaDoorOpen
import Derived.Test.YtkfkfpfcghobfaaDoorTie
import Derived.Test.YtkfkfpfcghobfaaDoorCards
import Derived.ProofKit
import Derived.OpenShut
import Derived.ShutString
import Derived.ChangeOld
import Derived.ChangeVars
import Derived.Lib.SmallJoins
import Derived.LaidLaws
import Derived.LaidHandle
import Derived.Stop.Joined
import Derived.SevenTiedAt
namespace Go.Proofs.YtkfkfpfcghobfaaDoor.LatticeSaysP
open Go.ChangeShapes Go.WideShapes Go.ChangeAt Go.RowKit Go.Joins
open Go.ChangeMaps (open_string shut_string)
open Go.Proofs.YtkfkfpfcghobfaaDoor Go.Proofs.YtkfkfpfcghobfaaDoor.LatMath
set_option linter.unusedVariables false
set_option linter.unusedSimpArgs false

theorem told (x : Int) (w : World) (hg : Handle w) : Calls Tryd.prog 5 #[errV x, .int .i64 x] w fun ev w' => ev = .returned (.bool true) ∧ Below w.heap.size w w' := by
  have h := EError_any x x w hg
  rw [show (x == x) = true by simp] at h
  exact h
theorem two_rows' (w : World) (a b c d : Int) (B b0 b1 : Nat) (h0 : w.cell? ⟨B, 0, none⟩ = some (.slice (some ⟨b0, 0, none⟩) 2 2)) (h1 : w.cell? ⟨B, 1, none⟩ = some (.slice (some ⟨b1, 0, none⟩) 2 2))
    (x0 : w.cell? ⟨b0, 0, none⟩ = some (.int .i64 a)) (x1 : w.cell? ⟨b0, 1, none⟩ = some (.int .i64 b)) (y0 : w.cell? ⟨b1, 0, none⟩ = some (.int .i64 c)) (y1 : w.cell? ⟨b1, 1, none⟩ = some (.int .i64 d)) : RowsAt w (some ⟨B, 0, none⟩) 2 [[a, b], [c, d]] := by
  refine ⟨rfl, fun i hi => ?_⟩
  match i, hi with
  | 0, _ => exact ⟨B, 0, some ⟨b0, 0, none⟩, 2, rfl, by simpa using h0, by simp, by simp [maxLen], by simp, IntsAt_two _ _ _ _ x0 x1⟩
  | 1, _ => exact ⟨B, 0, some ⟨b1, 0, none⟩, 2, rfl, by simpa using h1, by simp, by simp [maxLen], by simp, IntsAt_two _ _ _ _ y0 y1⟩
theorem det_2 (a b c d : Int) : detN 2 [[a, b], [c, d]] = a * d - b * c := by
  rw [detN_G]
  simp [G, sumTo, pw, minor, sk, fn]
  grind
theorem absI_nat (x : Int) : absI x = x.natAbs := by unfold absI; split <;> omega
theorem cr_bd {a b c d : Int} (h1 : -1000 ≤ a ∧ a ≤ 1000) (h2 : -1000 ≤ b ∧ b ≤ 1000) (h3 : -1000 ≤ c ∧ c ≤ 1000) (h4 : -1000 ≤ d ∧ d ≤ 1000) : (-1000000 ≤ a * d ∧ a * d ≤ 1000000) ∧ (-1000000 ≤ b * c ∧ b * c ≤ 1000000) := by
  have := mul_bd a d 1000 1000 h1.1 h1.2 h4.1 h4.2
  have := mul_bd b c 1000 1000 h2.1 h2.2 h3.1 h3.2
  omega
theorem out_far (p q : Int) : anyOut (-1000) 1000 [p, q] = !(inB p (-1000) 1000 && inB q (-1000) 1000) := by
  rw [inB_out, inB_out]
  simp [anyOut]
theorem sum_2 {D x y : Int} : sumOk 2 D (fun i => if i = 0 then x else y) = (dvB x D && dvB y D) := by
  rw [← dvB_tmod, ← dvB_tmod]
  simp [sumOk, List.range, List.range.loop]
/-- what the reference's Sum answers to two rows -/
theorem Sum_two {a b c d p q : Int} (h1 : -1000 ≤ a ∧ a ≤ 1000) (h2 : -1000 ≤ b ∧ b ≤ 1000) (h3 : -1000 ≤ c ∧ c ≤ 1000) (h4 : -1000 ≤ d ∧ d ≤ 1000) (h5 : -1000 ≤ p ∧ p ≤ 1000) (h6 : -1000 ≤ q ∧ q ≤ 1000) (hd : a * d - b * c ≠ 0) (x y : Option Addr) (w : World)
    (hr : RowsAt w x 2 [[a, b], [c, d]]) (hx : IntsAt w y 2 [p, q]) (hy : y ≠ none) :
    Calls Tryd.prog 12 #[.slice x 2 2, .slice y 2 2] w fun e w' => e = .returned (.bool (dvB (p * d - q * c) (a * d - b * c) && dvB (a * q - b * p) (a * d - b * c))) ∧ Below w.heap.size w w' := by
  obtain ⟨b1, b2⟩ := cr_bd h1 h2 h3 h4
  obtain ⟨b3, b4⟩ := cr_bd h5 h6 h3 h4
  obtain ⟨b5, b6⟩ := cr_bd h1 h2 h5 h6
  have := HSum_any 2 (by omega) (by omega) x 2 [[a, b], [c, d]] y 2 [p, q] w hr hx (by omega) (by omega) (by unfold maxLen; omega) (fun e => absurd e hy) ⟨rfl, fun k hk => by match k, hk with | 0, _ => rfl | 1, _ => rfl⟩
    (a * d - b * c) (by rw [det_2, wrap_in (by omega) (by omega)]) hd (by omega) (fun i => if i = 0 then p * d - q * c else a * q - b * p) (fun i hi => by
      match i, hi with
      | 0, _ => show wrap64 (detN 2 [[p, q], [c, d]]) = _; rw [det_2, wrap_in (by omega) (by omega)]; rfl
      | 1, _ => show wrap64 (detN 2 [[a, b], [p, q]]) = _; rw [det_2, wrap_in (by omega) (by omega)]; rfl) (fun i hi => by
      match i, hi with
      | 0, _ => show _ ≤ p * d - q * c ∧ p * d - q * c ≤ _; omega
      | 1, _ => show _ ≤ a * q - b * p ∧ a * q - b * p ≤ _; omega)
  rw [sum_2] at this
  exact this
set_option maxRecDepth 100000 in
set_option maxHeartbeats 4000000 in
theorem says_bad (a b c d p q : Int) (w : World) (hv : vecsErr a b c d ≠ 0) (hg : Handle w) :
    Calls Tryd.prog 3 #[vec a b, vec c d, vec p q] w fun e w' => e = .returned (.bool true) ∧ Below w.heap.size w w' := by
  have c0 := fun W => Vecs_any a b c d W
  have c1 := fun W => Check_bad hv W
  have c2 := fun W => Short_wrong hv W
  have c3 := fun W => Area_wrong hv W
  have c4 := fun W => LHas_wrong (p := p) (q := q) hv W
  have te := told (vecsErr a b c d)
  rw [errV_pos hv] at te
  have heb : (vecsErr a b c d == 0) = false := by simpa using hv
  generalize vecsErr a b c d = E at *
  have HG := Lib.hid hg
  clear hv hg
  go_enter Tryd.func3, Tryd.ntmps3
  go_wp2_with fail
  go_at_call 4
  refine (c0 _).mono ?_
  rintro e w1 ⟨rfl, hb⟩
  have hB1 := hb.mono (show w.heap.size + 3 ≤ _ from by simp)
  clear hb
  obtain ⟨hc, hf⟩ := rules hB1
  go_wp2_with fail
  go_at_call 6
  refine (c1 _).mono ?_
  rintro e w2 ⟨rfl, hb⟩
  have hB2 := step_below hB1 (by simp) hb
  clear hB1 hc hf
  clear hb
  obtain ⟨hc, hf⟩ := rules hB2
  go_wp2_with fail
  go_at_call 5
  refine (te _ (HG.out.call (((((Below.refl w.heap.size w).alloc (Nat.le_refl _) _).alloc (by simp) _).alloc (by simp; omega) _).trans (hB2.mono (by omega))))).mono ?_
  rintro e w3 ⟨rfl, hb⟩
  have hB3 := step_below hB2 (by simp) hb
  clear hB2 hc hf
  clear hb
  obtain ⟨hc, hf⟩ := rules hB3
  go_wp2_with fail
  go_at_call 9
  refine (c2 _).mono ?_
  rintro e w4 ⟨rfl, hb⟩
  have hB4 := step_below hB3 (by simp) hb
  clear hB3 hc hf
  clear hb
  obtain ⟨hc, hf⟩ := rules hB4
  go_wp2_with fail
  go_at_call 5
  refine (te _ (HG.out.call (((((Below.refl w.heap.size w).alloc (Nat.le_refl _) _).alloc (by simp) _).alloc (by simp; omega) _).trans (hB4.mono (by omega))))).mono ?_
  rintro e w5 ⟨rfl, hb⟩
  have hB5 := step_below hB4 (by simp) hb
  clear hB4 hc hf
  clear hb
  obtain ⟨hc, hf⟩ := rules hB5
  go_wp2_with fail
  go_at_call 10
  refine (c3 _).mono ?_
  rintro e w6 ⟨rfl, hb⟩
  have hB6 := step_below hB5 (by simp) hb
  clear hB5 hc hf
  clear hb
  obtain ⟨hc, hf⟩ := rules hB6
  go_wp2_with fail
  go_at_call 5
  refine (te _ (HG.out.call (((((Below.refl w.heap.size w).alloc (Nat.le_refl _) _).alloc (by simp) _).alloc (by simp; omega) _).trans (hB6.mono (by omega))))).mono ?_
  rintro e w7 ⟨rfl, hb⟩
  have hB7 := step_below hB6 (by simp) hb
  clear hB6 hc hf
  clear hb
  obtain ⟨hc, hf⟩ := rules hB7
  go_wp2_with fail
  go_at_call 13
  refine (c4 _).mono ?_
  rintro e w8 ⟨rfl, hb⟩
  have hB8 := step_below hB7 (by simp) hb
  clear hB7 hc hf
  clear hb
  obtain ⟨hc, hf⟩ := rules hB8
  go_wp2_with fail
  go_at_call 5
  refine (te _ (HG.out.call (((((Below.refl w.heap.size w).alloc (Nat.le_refl _) _).alloc (by simp) _).alloc (by simp; omega) _).trans (hB8.mono (by omega))))).mono ?_
  rintro e w9 ⟨rfl, hb⟩
  have hB9 := step_below hB8 (by simp) hb
  clear hB8 hc hf
  clear hb
  obtain ⟨hc, hf⟩ := rules hB9
  go_wp2_with fail
  go_ret
  exact ⟨rfl, (((((Below.refl w.heap.size w).alloc (Nat.le_refl _) _).alloc (by simp) _).alloc (by simp; omega) _).trans (hB9.mono (by omega)))⟩
set_option maxRecDepth 100000 in
set_option maxHeartbeats 4000000 in
theorem says_far1 (a b c d p q : Int) (w : World) (hv : vecsErr a b c d = 0) (h1 : inB p (-1000) 1000 = false) (hg : Handle w) :
    Calls Tryd.prog 3 #[vec a b, vec c d, vec p q] w fun e w' => e = .returned (.bool true) ∧ Below w.heap.size w w' := by
  have c0 := fun W => Vecs_any a b c d W
  have c1 := fun W => Check_good hv W
  have c2 := fun W => Short_good hv W
  have c3 := fun W => Area_good hv W
  have te := told 0
  rw [errV_zero] at te
  rw [hv] at c0
  obtain ⟨g1, g2, g3, g4⟩ := good_bd hv
  have hd0 := (vecsErr_good hv).2.2
  have k1 := sq_bd g1
  have k2 := sq_bd g2
  have k3 := sq_bd g3
  have k4 := sq_bd g4
  have n1 := LatMath.sq_nn a
  have n2 := LatMath.sq_nn b
  have n3 := LatMath.sq_nn c
  have n4 := LatMath.sq_nn d
  obtain ⟨m1, m2⟩ := cr_bd g1 g2 g3 g4
  have m3 := mul_bd a c 1000 1000 g1.1 g1.2 g3.1 g3.2
  have m4 := mul_bd b d 1000 1000 g2.1 g2.2 g4.1 g4.2
  have c5 := fun W => HShort_any a b c d (a * a + b * b) (2 * (a * c + b * d)) (c * c + d * d) W ⟨a, b, c, d, Uni.refl _ _ _ _, rfl, rfl, rfl⟩ (by omega) (by omega) hd0
  have c6 := fun W => RAbs_any (a * d - b * c) W (by omega) (by omega)
  rw [absI_nat] at c6
  have hw1 : IntKind.i64.wrap (a * a) = a * a := IntWalk.i64_in _ (by omega)
  have hw2 : IntKind.i64.wrap (b * b) = b * b := IntWalk.i64_in _ (by omega)
  have hw3 : IntKind.i64.wrap (c * c) = c * c := IntWalk.i64_in _ (by omega)
  have hw4 : IntKind.i64.wrap (d * d) = d * d := IntWalk.i64_in _ (by omega)
  have hw5 : IntKind.i64.wrap (a * c) = a * c := IntWalk.i64_in _ (by omega)
  have hw6 : IntKind.i64.wrap (b * d) = b * d := IntWalk.i64_in _ (by omega)
  have hw7 : IntKind.i64.wrap (a * d) = a * d := IntWalk.i64_in _ (by omega)
  have hw8 : IntKind.i64.wrap (b * c) = b * c := IntWalk.i64_in _ (by omega)
  have hw9 : IntKind.i64.wrap (a * a + b * b) = a * a + b * b := IntWalk.i64_in _ (by omega)
  have hwa : IntKind.i64.wrap (c * c + d * d) = c * c + d * d := IntWalk.i64_in _ (by omega)
  have hwb : IntKind.i64.wrap (a * c + b * d) = a * c + b * d := IntWalk.i64_in _ (by omega)
  have hwc : IntKind.i64.wrap (2 * (a * c + b * d)) = 2 * (a * c + b * d) := IntWalk.i64_in _ (by omega)
  have hwd : IntKind.i64.wrap (a * d - b * c) = a * d - b * c := IntWalk.i64_in _ (by omega)
  have hx := out_far p q
  rw [h1] at hx
  have c4 := fun W => LHas_far (p := p) (q := q) hv (by rw [hx]; rfl) W
  have t1 := told 1
  rw [errV_pos (by decide)] at t1
  have HG := Lib.hid hg
  have H1 := Lib.hid h1
  have HD := Lib.hid hd0
  clear hv hg h1  hx g1 g2 g3 g4 hd0 k1 k2 k3 k4 n1 n2 n3 n4 m1 m2 m3 m4
  go_enter Tryd.func3, Tryd.ntmps3
  go_wp2_with fail
  go_at_call 4
  refine (c0 _).mono ?_
  rintro e w1 ⟨rfl, hb⟩
  have hB1 := hb.mono (show w.heap.size + 3 ≤ _ from by simp)
  clear hb
  obtain ⟨hc, hf⟩ := rules hB1
  go_wp2_with fail
  go_at_call 6
  refine (c1 _).mono ?_
  rintro e w2 ⟨rfl, hb⟩
  have hB2 := step_below hB1 (by simp) hb
  clear hB1 hc hf
  clear hb
  obtain ⟨hc, hf⟩ := rules hB2
  go_wp2_with fail
  go_at_call 5
  refine (te _ (HG.out.call (((((Below.refl w.heap.size w).alloc (Nat.le_refl _) _).alloc (by simp) _).alloc (by simp; omega) _).trans (hB2.mono (by omega))))).mono ?_
  rintro e w3 ⟨rfl, hb⟩
  have hB3 := step_below hB2 (by simp) hb
  clear hB2 hc hf
  clear hb
  obtain ⟨hc, hf⟩ := rules hB3
  go_wp2_with fail
  go_at_call 7
  refine (c5 _).mono ?_
  rintro e w4 ⟨⟨X, Y, rfl, hR⟩, rfl⟩
  go_wp2_with fail
  go_at_call 8
  refine (c6 _).mono ?_
  rintro e w5 ⟨rfl, rfl⟩
  have HRR := Lib.hid hR
  clear hR
  go_wp2_with fail
  go_at_call 9
  refine (c2 _).mono ?_
  rintro e w6 ⟨⟨X', Y', rfl, hR'⟩, hb⟩
  have hB6 := step_below hB3 (by simp) hb
  clear hB3 hc hf
  clear hb
  obtain ⟨hc, hf⟩ := rules hB6
  obtain ⟨rfl, rfl⟩ := HRR.out.unique hR' HD.out
  clear hR' HRR
  go_wp2_with fail
  go_at_call 5
  refine (te _ (HG.out.call (((((Below.refl w.heap.size w).alloc (Nat.le_refl _) _).alloc (by simp) _).alloc (by simp; omega) _).trans (hB6.mono (by omega))))).mono ?_
  rintro e w7 ⟨rfl, hb⟩
  have hB7 := step_below hB6 (by simp) hb
  clear hB6 hc hf
  clear hb
  obtain ⟨hc, hf⟩ := rules hB7
  go_wp2_with fail
  go_at_call 10
  refine (c3 _).mono ?_
  rintro e w8 ⟨rfl, hb⟩
  have hB8 := step_below hB7 (by simp) hb
  clear hB7 hc hf
  clear hb
  obtain ⟨hc, hf⟩ := rules hB8
  go_wp2_with fail
  go_at_call 5
  refine (te _ (HG.out.call (((((Below.refl w.heap.size w).alloc (Nat.le_refl _) _).alloc (by simp) _).alloc (by simp; omega) _).trans (hB8.mono (by omega))))).mono ?_
  rintro e w9 ⟨rfl, hb⟩
  have hB9 := step_below hB8 (by simp) hb
  clear hB8 hc hf
  clear hb
  obtain ⟨hc, hf⟩ := rules hB9
  go_wp2_with fail
  go_at_call 11
  refine (in_any _ _ _ _).mono ?_
  rintro e w10 ⟨rfl, rfl⟩
  rw [H1.out]
  go_wp2_with fail
  go_at_call 13
  refine (c4 _).mono ?_
  rintro e w11 ⟨rfl, hb⟩
  have hB11 := step_below hB9 (by simp) hb
  clear hB9 hc hf
  clear hb
  obtain ⟨hc, hf⟩ := rules hB11
  go_wp2_with fail
  go_at_call 5
  refine (t1 _ (HG.out.call (((((Below.refl w.heap.size w).alloc (Nat.le_refl _) _).alloc (by simp) _).alloc (by simp; omega) _).trans (hB11.mono (by omega))))).mono ?_
  rintro e w12 ⟨rfl, hb⟩
  have hB12 := step_below hB11 (by simp) hb
  clear hB11 hc hf
  clear hb
  obtain ⟨hc, hf⟩ := rules hB12
  go_wp2_with fail
  go_ret
  exact ⟨rfl, (((((Below.refl w.heap.size w).alloc (Nat.le_refl _) _).alloc (by simp) _).alloc (by simp; omega) _).trans (hB12.mono (by omega)))⟩
set_option maxRecDepth 100000 in
set_option maxHeartbeats 4000000 in
theorem says_far2 (a b c d p q : Int) (w : World) (hv : vecsErr a b c d = 0) (h1 : inB p (-1000) 1000 = true) (h2 : inB q (-1000) 1000 = false) (hg : Handle w) :
    Calls Tryd.prog 3 #[vec a b, vec c d, vec p q] w fun e w' => e = .returned (.bool true) ∧ Below w.heap.size w w' := by
  have c0 := fun W => Vecs_any a b c d W
  have c1 := fun W => Check_good hv W
  have c2 := fun W => Short_good hv W
  have c3 := fun W => Area_good hv W
  have te := told 0
  rw [errV_zero] at te
  rw [hv] at c0
  obtain ⟨g1, g2, g3, g4⟩ := good_bd hv
  have hd0 := (vecsErr_good hv).2.2
  have k1 := sq_bd g1
  have k2 := sq_bd g2
  have k3 := sq_bd g3
  have k4 := sq_bd g4
  have n1 := LatMath.sq_nn a
  have n2 := LatMath.sq_nn b
  have n3 := LatMath.sq_nn c
  have n4 := LatMath.sq_nn d
  obtain ⟨m1, m2⟩ := cr_bd g1 g2 g3 g4
  have m3 := mul_bd a c 1000 1000 g1.1 g1.2 g3.1 g3.2
  have m4 := mul_bd b d 1000 1000 g2.1 g2.2 g4.1 g4.2
  have c5 := fun W => HShort_any a b c d (a * a + b * b) (2 * (a * c + b * d)) (c * c + d * d) W ⟨a, b, c, d, Uni.refl _ _ _ _, rfl, rfl, rfl⟩ (by omega) (by omega) hd0
  have c6 := fun W => RAbs_any (a * d - b * c) W (by omega) (by omega)
  rw [absI_nat] at c6
  have hw1 : IntKind.i64.wrap (a * a) = a * a := IntWalk.i64_in _ (by omega)
  have hw2 : IntKind.i64.wrap (b * b) = b * b := IntWalk.i64_in _ (by omega)
  have hw3 : IntKind.i64.wrap (c * c) = c * c := IntWalk.i64_in _ (by omega)
  have hw4 : IntKind.i64.wrap (d * d) = d * d := IntWalk.i64_in _ (by omega)
  have hw5 : IntKind.i64.wrap (a * c) = a * c := IntWalk.i64_in _ (by omega)
  have hw6 : IntKind.i64.wrap (b * d) = b * d := IntWalk.i64_in _ (by omega)
  have hw7 : IntKind.i64.wrap (a * d) = a * d := IntWalk.i64_in _ (by omega)
  have hw8 : IntKind.i64.wrap (b * c) = b * c := IntWalk.i64_in _ (by omega)
  have hw9 : IntKind.i64.wrap (a * a + b * b) = a * a + b * b := IntWalk.i64_in _ (by omega)
  have hwa : IntKind.i64.wrap (c * c + d * d) = c * c + d * d := IntWalk.i64_in _ (by omega)
  have hwb : IntKind.i64.wrap (a * c + b * d) = a * c + b * d := IntWalk.i64_in _ (by omega)
  have hwc : IntKind.i64.wrap (2 * (a * c + b * d)) = 2 * (a * c + b * d) := IntWalk.i64_in _ (by omega)
  have hwd : IntKind.i64.wrap (a * d - b * c) = a * d - b * c := IntWalk.i64_in _ (by omega)
  have hx := out_far p q
  rw [h1, h2] at hx
  have c4 := fun W => LHas_far (p := p) (q := q) hv (by rw [hx]; rfl) W
  have t1 := told 1
  rw [errV_pos (by decide)] at t1
  have H2 := Lib.hid h2
  have HG := Lib.hid hg
  have H1 := Lib.hid h1
  have HD := Lib.hid hd0
  clear hv hg h1 h2 hx g1 g2 g3 g4 hd0 k1 k2 k3 k4 n1 n2 n3 n4 m1 m2 m3 m4
  go_enter Tryd.func3, Tryd.ntmps3
  go_wp2_with fail
  go_at_call 4
  refine (c0 _).mono ?_
  rintro e w1 ⟨rfl, hb⟩
  have hB1 := hb.mono (show w.heap.size + 3 ≤ _ from by simp)
  clear hb
  obtain ⟨hc, hf⟩ := rules hB1
  go_wp2_with fail
  go_at_call 6
  refine (c1 _).mono ?_
  rintro e w2 ⟨rfl, hb⟩
  have hB2 := step_below hB1 (by simp) hb
  clear hB1 hc hf
  clear hb
  obtain ⟨hc, hf⟩ := rules hB2
  go_wp2_with fail
  go_at_call 5
  refine (te _ (HG.out.call (((((Below.refl w.heap.size w).alloc (Nat.le_refl _) _).alloc (by simp) _).alloc (by simp; omega) _).trans (hB2.mono (by omega))))).mono ?_
  rintro e w3 ⟨rfl, hb⟩
  have hB3 := step_below hB2 (by simp) hb
  clear hB2 hc hf
  clear hb
  obtain ⟨hc, hf⟩ := rules hB3
  go_wp2_with fail
  go_at_call 7
  refine (c5 _).mono ?_
  rintro e w4 ⟨⟨X, Y, rfl, hR⟩, rfl⟩
  go_wp2_with fail
  go_at_call 8
  refine (c6 _).mono ?_
  rintro e w5 ⟨rfl, rfl⟩
  have HRR := Lib.hid hR
  clear hR
  go_wp2_with fail
  go_at_call 9
  refine (c2 _).mono ?_
  rintro e w6 ⟨⟨X', Y', rfl, hR'⟩, hb⟩
  have hB6 := step_below hB3 (by simp) hb
  clear hB3 hc hf
  clear hb
  obtain ⟨hc, hf⟩ := rules hB6
  obtain ⟨rfl, rfl⟩ := HRR.out.unique hR' HD.out
  clear hR' HRR
  go_wp2_with fail
  go_at_call 5
  refine (te _ (HG.out.call (((((Below.refl w.heap.size w).alloc (Nat.le_refl _) _).alloc (by simp) _).alloc (by simp; omega) _).trans (hB6.mono (by omega))))).mono ?_
  rintro e w7 ⟨rfl, hb⟩
  have hB7 := step_below hB6 (by simp) hb
  clear hB6 hc hf
  clear hb
  obtain ⟨hc, hf⟩ := rules hB7
  go_wp2_with fail
  go_at_call 10
  refine (c3 _).mono ?_
  rintro e w8 ⟨rfl, hb⟩
  have hB8 := step_below hB7 (by simp) hb
  clear hB7 hc hf
  clear hb
  obtain ⟨hc, hf⟩ := rules hB8
  go_wp2_with fail
  go_at_call 5
  refine (te _ (HG.out.call (((((Below.refl w.heap.size w).alloc (Nat.le_refl _) _).alloc (by simp) _).alloc (by simp; omega) _).trans (hB8.mono (by omega))))).mono ?_
  rintro e w9 ⟨rfl, hb⟩
  have hB9 := step_below hB8 (by simp) hb
  clear hB8 hc hf
  clear hb
  obtain ⟨hc, hf⟩ := rules hB9
  go_wp2_with fail
  go_at_call 11
  refine (in_any _ _ _ _).mono ?_
  rintro e w10 ⟨rfl, rfl⟩
  rw [H1.out]
  go_wp2_with fail
  go_at_call 11
  refine (in_any _ _ _ _).mono ?_
  rintro e w11 ⟨rfl, rfl⟩
  rw [H2.out]
  go_wp2_with fail
  go_at_call 13
  refine (c4 _).mono ?_
  rintro e w12 ⟨rfl, hb⟩
  have hB12 := step_below hB9 (by simp) hb
  clear hB9 hc hf
  clear hb
  obtain ⟨hc, hf⟩ := rules hB12
  go_wp2_with fail
  go_at_call 5
  refine (t1 _ (HG.out.call (((((Below.refl w.heap.size w).alloc (Nat.le_refl _) _).alloc (by simp) _).alloc (by simp; omega) _).trans (hB12.mono (by omega))))).mono ?_
  rintro e w13 ⟨rfl, hb⟩
  have hB13 := step_below hB12 (by simp) hb
  clear hB12 hc hf
  clear hb
  obtain ⟨hc, hf⟩ := rules hB13
  go_wp2_with fail
  go_ret
  exact ⟨rfl, (((((Below.refl w.heap.size w).alloc (Nat.le_refl _) _).alloc (by simp) _).alloc (by simp; omega) _).trans (hB13.mono (by omega)))⟩
set_option maxRecDepth 100000 in
set_option maxHeartbeats 4000000 in
theorem says_good (a b c d p q : Int) (w : World) (hv : vecsErr a b c d = 0) (h1 : inB p (-1000) 1000 = true) (h2 : inB q (-1000) 1000 = true) (hg : Handle w) :
    Calls Tryd.prog 3 #[vec a b, vec c d, vec p q] w fun e w' => e = .returned (.bool true) ∧ Below w.heap.size w w' := by
  have c0 := fun W => Vecs_any a b c d W
  have c1 := fun W => Check_good hv W
  have c2 := fun W => Short_good hv W
  have c3 := fun W => Area_good hv W
  have te := told 0
  rw [errV_zero] at te
  rw [hv] at c0
  obtain ⟨g1, g2, g3, g4⟩ := good_bd hv
  have hd0 := (vecsErr_good hv).2.2
  have k1 := sq_bd g1
  have k2 := sq_bd g2
  have k3 := sq_bd g3
  have k4 := sq_bd g4
  have n1 := LatMath.sq_nn a
  have n2 := LatMath.sq_nn b
  have n3 := LatMath.sq_nn c
  have n4 := LatMath.sq_nn d
  obtain ⟨m1, m2⟩ := cr_bd g1 g2 g3 g4
  have m3 := mul_bd a c 1000 1000 g1.1 g1.2 g3.1 g3.2
  have m4 := mul_bd b d 1000 1000 g2.1 g2.2 g4.1 g4.2
  have c5 := fun W => HShort_any a b c d (a * a + b * b) (2 * (a * c + b * d)) (c * c + d * d) W ⟨a, b, c, d, Uni.refl _ _ _ _, rfl, rfl, rfl⟩ (by omega) (by omega) hd0
  have c6 := fun W => RAbs_any (a * d - b * c) W (by omega) (by omega)
  rw [absI_nat] at c6
  have hw1 : IntKind.i64.wrap (a * a) = a * a := IntWalk.i64_in _ (by omega)
  have hw2 : IntKind.i64.wrap (b * b) = b * b := IntWalk.i64_in _ (by omega)
  have hw3 : IntKind.i64.wrap (c * c) = c * c := IntWalk.i64_in _ (by omega)
  have hw4 : IntKind.i64.wrap (d * d) = d * d := IntWalk.i64_in _ (by omega)
  have hw5 : IntKind.i64.wrap (a * c) = a * c := IntWalk.i64_in _ (by omega)
  have hw6 : IntKind.i64.wrap (b * d) = b * d := IntWalk.i64_in _ (by omega)
  have hw7 : IntKind.i64.wrap (a * d) = a * d := IntWalk.i64_in _ (by omega)
  have hw8 : IntKind.i64.wrap (b * c) = b * c := IntWalk.i64_in _ (by omega)
  have hw9 : IntKind.i64.wrap (a * a + b * b) = a * a + b * b := IntWalk.i64_in _ (by omega)
  have hwa : IntKind.i64.wrap (c * c + d * d) = c * c + d * d := IntWalk.i64_in _ (by omega)
  have hwb : IntKind.i64.wrap (a * c + b * d) = a * c + b * d := IntWalk.i64_in _ (by omega)
  have hwc : IntKind.i64.wrap (2 * (a * c + b * d)) = 2 * (a * c + b * d) := IntWalk.i64_in _ (by omega)
  have hwd : IntKind.i64.wrap (a * d - b * c) = a * d - b * c := IntWalk.i64_in _ (by omega)
  have hx := out_far p q
  rw [h1, h2] at hx
  have c4 := fun W => LHas_good (p := p) (q := q) hv hx W
  have c7 := fun x y W (h : RowsAt W x 2 [[a, b], [c, d]]) (k : IntsAt W y 2 [p, q]) (hy : y ≠ none) => Sum_two g1 g2 g3 g4 (inB_true h1) (inB_true h2) hd0 x y W h k hy
  generalize (dvB (p * d - q * c) (a * d - b * c) && dvB (a * q - b * p) (a * d - b * c)) = V at *
  have H2 := Lib.hid h2
  have C7 := Lib.hid c7
  have HG := Lib.hid hg
  have H1 := Lib.hid h1
  have HD := Lib.hid hd0
  clear hv hg h1 h2 hx g1 g2 g3 g4 hd0 k1 k2 k3 k4 n1 n2 n3 n4 m1 m2 m3 m4 c7
  go_enter Tryd.func3, Tryd.ntmps3
  go_wp2_with fail
  go_at_call 4
  refine (c0 _).mono ?_
  rintro e w1 ⟨rfl, hb⟩
  have hB1 := hb.mono (show w.heap.size + 3 ≤ _ from by simp)
  clear hb
  obtain ⟨hc, hf⟩ := rules hB1
  go_wp2_with fail
  go_at_call 6
  refine (c1 _).mono ?_
  rintro e w2 ⟨rfl, hb⟩
  have hB2 := step_below hB1 (by simp) hb
  clear hB1 hc hf
  clear hb
  obtain ⟨hc, hf⟩ := rules hB2
  go_wp2_with fail
  go_at_call 5
  refine (te _ (HG.out.call (((((Below.refl w.heap.size w).alloc (Nat.le_refl _) _).alloc (by simp) _).alloc (by simp; omega) _).trans (hB2.mono (by omega))))).mono ?_
  rintro e w3 ⟨rfl, hb⟩
  have hB3 := step_below hB2 (by simp) hb
  clear hB2 hc hf
  clear hb
  obtain ⟨hc, hf⟩ := rules hB3
  go_wp2_with fail
  go_at_call 7
  refine (c5 _).mono ?_
  rintro e w4 ⟨⟨X, Y, rfl, hR⟩, rfl⟩
  go_wp2_with fail
  go_at_call 8
  refine (c6 _).mono ?_
  rintro e w5 ⟨rfl, rfl⟩
  have HRR := Lib.hid hR
  clear hR
  go_wp2_with fail
  go_at_call 9
  refine (c2 _).mono ?_
  rintro e w6 ⟨⟨X', Y', rfl, hR'⟩, hb⟩
  have hB6 := step_below hB3 (by simp) hb
  clear hB3 hc hf
  clear hb
  obtain ⟨hc, hf⟩ := rules hB6
  obtain ⟨rfl, rfl⟩ := HRR.out.unique hR' HD.out
  clear hR' HRR
  go_wp2_with fail
  go_at_call 5
  refine (te _ (HG.out.call (((((Below.refl w.heap.size w).alloc (Nat.le_refl _) _).alloc (by simp) _).alloc (by simp; omega) _).trans (hB6.mono (by omega))))).mono ?_
  rintro e w7 ⟨rfl, hb⟩
  have hB7 := step_below hB6 (by simp) hb
  clear hB6 hc hf
  clear hb
  obtain ⟨hc, hf⟩ := rules hB7
  go_wp2_with fail
  go_at_call 10
  refine (c3 _).mono ?_
  rintro e w8 ⟨rfl, hb⟩
  have hB8 := step_below hB7 (by simp) hb
  clear hB7 hc hf
  clear hb
  obtain ⟨hc, hf⟩ := rules hB8
  go_wp2_with fail
  go_at_call 5
  refine (te _ (HG.out.call (((((Below.refl w.heap.size w).alloc (Nat.le_refl _) _).alloc (by simp) _).alloc (by simp; omega) _).trans (hB8.mono (by omega))))).mono ?_
  rintro e w9 ⟨rfl, hb⟩
  have hB9 := step_below hB8 (by simp) hb
  clear hB8 hc hf
  clear hb
  obtain ⟨hc, hf⟩ := rules hB9
  go_wp2_with fail
  go_at_call 11
  refine (in_any _ _ _ _).mono ?_
  rintro e w10 ⟨rfl, rfl⟩
  rw [H1.out]
  go_wp2_with fail
  go_at_call 11
  refine (in_any _ _ _ _).mono ?_
  rintro e w11 ⟨rfl, rfl⟩
  rw [H2.out]
  have hz9 := hB9.size
  simp only [World.size_alloc] at hz9
  have hq1 : w.heap.size + 1 + 1 < w9.heap.size := by omega
  have hq2 : w.heap.size + 1 < w9.heap.size := by omega
  have hq3 : w.heap.size < w9.heap.size := by omega
  go_wp2_with fail
  go_at_call 12
  refine (C7.out _ _ _ (two_rows' _ _ _ _ _ _ w9.heap.size (w9.heap.size + 1) (by go_simp) (by go_simp) (by go_simp) (by go_simp) (by go_simp) (by go_simp)) (IntsAt_two _ _ _ _ (by go_simp) (by go_simp)) (by simp)).mono ?_
  rintro e w20 ⟨rfl, hb⟩
  have hB20 := hB9.trans ((((((Below.refl w9.heap.size w9).alloc (Nat.le_refl _) _).alloc (by simp) _).alloc (by simp; omega) _).alloc (by simp; omega) _).trans (hb.mono (by simp; omega)) |>.mono (by omega))
  clear hB9 hb hc hf hq1 hq2 hq3
  obtain ⟨hc, hf⟩ := rules hB20
  go_wp2_with fail
  go_at_call 13
  refine (c4 _).mono ?_
  rintro e w21 ⟨rfl, hb⟩
  have hB21 := step_below hB20 (by simp) hb
  clear hB20 hc hf
  clear hb
  obtain ⟨hc, hf⟩ := rules hB21
  go_wp2_with fail
  go_at_call 5
  refine (te _ (HG.out.call (((((Below.refl w.heap.size w).alloc (Nat.le_refl _) _).alloc (by simp) _).alloc (by simp; omega) _).trans (hB21.mono (by omega))))).mono ?_
  rintro e w22 ⟨rfl, hb⟩
  have hB22 := step_below hB21 (by simp) hb
  clear hB21 hc hf
  clear hb
  obtain ⟨hc, hf⟩ := rules hB22
  go_wp2_with fail
  go_ret
  exact ⟨rfl, (((((Below.refl w.heap.size w).alloc (Nat.le_refl _) _).alloc (by simp) _).alloc (by simp; omega) _).trans (hB22.mono (by omega)))⟩
theorem LatticeSays_any (a b c d p q : Int) (w : World) (hg : Handle w) :
    Calls Tryd.prog 3 #[vec a b, vec c d, vec p q] w fun e w' => e = .returned (.bool true) ∧ Below w.heap.size w w' := by
  by_cases hv : vecsErr a b c d = 0
  · cases h1 : inB p (-1000) 1000
    · exact says_far1 a b c d p q w hv h1 hg
    · cases h2 : inB q (-1000) 1000
      · exact says_far2 a b c d p q w hv h1 h2 hg
      · exact says_good a b c d p q w hv h1 h2 hg
  · exact says_bad a b c d p q w hv hg
theorem frame_own : ownKnob Tryd.prog.godebug = none := by kernel_rfl
theorem frame_laid : laidOutB Tryd.prog = true := by kernel_rfl
theorem frame_vec : Tryd.prog.cellsOf 23 = 2 := by kernel_rfl
theorem frame_et : Tryd.prog.globalNamed "errors.errorType" = some 0 := by kernel_rfl
theorem frame_rt : (Tryd.prog.cutTypes.find? (·.1 == "internal/reflectlite.rtype")).map (·.2) = some 67 := by kernel_rfl
theorem frame_oneRow : ((List.range 110).filter fun t => Tryd.prog.rowNamed t [101, 114, 114, 111, 114]) = [27] := by kernel_rfl
theorem frame_size : Tryd.prog.types.size = 110 := by kernel_rfl
theorem handle_of_laid {W : World} (h : laidMetH Tryd.prog Rows.latticeSaysRow.laid W) : Handle W := by
  have h' : laidMet Tryd.prog [] W ∧ handlesMet Tryd.prog Rows.latticeSaysRow.laid W := h
  obtain ⟨name, u, ty, e1, e2, e3, e4, e5⟩ := h'.2 _ (List.mem_singleton.2 rfl)
  have en : name = [101, 114, 114, 111, 114] := (Option.some.inj e1).symm
  subst en
  obtain rfl := Option.some.inj (frame_rt.symm.trans e2)
  have hm : ty ∈ (List.range 110).filter fun t => Tryd.prog.rowNamed t [101, 114, 114, 111, 114] := List.mem_filter.2 ⟨List.mem_range.2 (by rw [← frame_size]; exact e3), e4⟩
  rw [frame_oneRow] at hm
  obtain rfl := List.mem_singleton.1 hm
  have hh : typeHandle Tryd.prog 27 = .pointer (some ⟨1, 27, none⟩) := by kernel_rfl
  rw [hh] at e5
  unfold Handle
  simpa using World.var?_cell frame_et e5 0
noncomputable def laidWorld (os : Os) : World :=
  let w0 := World.holding Tryd.prog os ⟨#[], #[], []⟩
  { w0 with heap := w0.heap.modify 0 fun
      | .cells _ t frozen => .cells #[.iface 67 (.agg #[.pointer (some ⟨1, 27, none⟩)])] t frozen
      | o => o }
theorem laidWorld_met (os : Os) (args : Array Value) : laidMetH Tryd.prog Rows.latticeSaysRow.laid ((laidWorld os).forCall (fun _ _ => 0) ⟨#[], args, []⟩).memory :=
  laidMetH_of_parts (laidMet_nil _ _) (by kernel_rfl)
set_option maxRecDepth 100000 in
theorem frame_lifted (os : Os) (started : os.Started) (H : Type) (enc : TypeId × Value → H) :
    ReturnsInHanded {} Tryd.checked os 3 .any (fun w args => (Rows.latticeSaysSpec.pre enc Tryd.prog Tryd.f3 Rows.latticeSaysRow.domain false w args ∧ laidMetH Tryd.prog Rows.latticeSaysRow.laid w) ∧ sizedMet enc Tryd.prog Tryd.f3 (OpenSpec.ofChange Rows.latticeSaysSpec) false w args) (Rows.latticeSaysSpec.post enc Tryd.prog Tryd.f3 false true false false) := by
  refine returnsInHanded_of_change_and (C := Tryd.checked) (X := (fun w _ => laidMetH Tryd.prog Rows.latticeSaysRow.laid w)) (fun _ _ _ hh h => h.of_heap hh) frame_own started (by kernel_rfl) Tryd.func3
    (ChangeSpec.witness_at (enc := enc) (C := Tryd.checked) (os := os) (X := (fun w _ => laidMetH Tryd.prog Rows.latticeSaysRow.laid w)) false (laidWorld os) #[.agg #[.int .i64 0, .int .i64 0], .agg #[.int .i64 0, .int .i64 0], .agg #[.int .i64 0, .int .i64 0]] 8 rfl (by kernel_rfl) (by kernel_rfl) (by kernel_rfl) (by kernel_rfl) (by kernel_rfl) (laidWorld_met os _)) ?_
  intro W base args ds gs before hval0 hW hcnd _ hLaid _
  have hval : ∀ (j : Nat) t v, Tryd.f3.params[j]? = some t → args[j]? = some v → Value.okWide Tryd.prog W .any base t v := hval0
  have hW' := hW
  obtain ⟨p, q, hA0, hV, rfl, hfz, hnd⟩ := hW
  have hA : DataW.TrodAll enc Tryd.prog W 0 (fun _ => true) true Tryd.f3.params.toList args.toList ds p := hA0
  rw [Tryd.params3] at hA hval
  obtain ⟨v0, vs0, d0, ds0, p0, q0, hargs, rfl, rfl, h0, r0⟩ := trodAll_cons hA
  obtain ⟨v1, vs1, d1, ds1, p1, q1, rfl, rfl, rfl, h1, r1⟩ := trodAll_cons r0
  obtain ⟨v2, vs2, d2, ds2, p2, q2, rfl, rfl, rfl, h2, r2⟩ := trodAll_cons r1
  obtain ⟨rfl, rfl, rfl⟩ := trodAll_nil r2
  obtain rfl : args = #[v0, v1, v2] := by cases args; simp_all
  obtain ⟨rfl, rfl⟩ := trodVars_none hV
  have k0 := h0
  have lt0 : ∀ x ∈ p0, x.block < W.heap.size := by obtain ⟨m, hm⟩ := k0; exact DataW.trod_lt m _ _ _ hm
  obtain ⟨c0, e0, y0, z0, m0, rfl, rfl, rfl, hy0, hz0⟩ := open_agg2 Tryd.underlying23 (by kernel_rfl) frame_vec (hval 0 23 v0 rfl rfl) h0
  obtain ⟨x0, f0, g0, wx0⟩ := DataW.trod_int Tryd.underlying3 hy0
  obtain rfl : c0 = .int .i64 x0 := by simpa using f0
  obtain ⟨t0, f0, g0, wt0⟩ := DataW.trod_int Tryd.underlying3 hz0
  obtain rfl : e0 = .int .i64 t0 := by simpa using f0
  have k1 := h1
  have lt1 : ∀ x ∈ p1, x.block < W.heap.size := by obtain ⟨m, hm⟩ := k1; exact DataW.trod_lt m _ _ _ hm
  obtain ⟨c1, e1, y1, z1, m1, rfl, rfl, rfl, hy1, hz1⟩ := open_agg2 Tryd.underlying23 (by kernel_rfl) frame_vec (hval 1 23 v1 rfl rfl) h1
  obtain ⟨x1, f1, g1, wx1⟩ := DataW.trod_int Tryd.underlying3 hy1
  obtain rfl : c1 = .int .i64 x1 := by simpa using f1
  obtain ⟨t1, f1, g1, wt1⟩ := DataW.trod_int Tryd.underlying3 hz1
  obtain rfl : e1 = .int .i64 t1 := by simpa using f1
  have k2 := h2
  have lt2 : ∀ x ∈ p2, x.block < W.heap.size := by obtain ⟨m, hm⟩ := k2; exact DataW.trod_lt m _ _ _ hm
  obtain ⟨c2, e2, y2, z2, m2, rfl, rfl, rfl, hy2, hz2⟩ := open_agg2 Tryd.underlying23 (by kernel_rfl) frame_vec (hval 2 23 v2 rfl rfl) h2
  obtain ⟨x2, f2, g2, wx2⟩ := DataW.trod_int Tryd.underlying3 hy2
  obtain rfl : c2 = .int .i64 x2 := by simpa using f2
  obtain ⟨t2, f2, g2, wt2⟩ := DataW.trod_int Tryd.underlying3 hz2
  obtain rfl : e2 = .int .i64 t2 := by simpa using f2
  clear hA0 hval0
  refine (LatticeSays_any x0 t0 x1 t1 x2 t2 W (handle_of_laid hLaid)).mono fun e W' ⟨he, bel⟩ => ?_
  subst he
  exact ⟨_, rfl, _, _, _, [], _, [], hW', trodAll_mk1 (shut_bool Tryd.underlying4 _), (trodAll_cons_mk (Below.trod frame_laid (by kernel_rfl) (of_decide_eq_true (by kernel_rfl)) k0 bel lt0) (trodAll_cons_mk (Below.trod frame_laid (by kernel_rfl) (of_decide_eq_true (by kernel_rfl)) k1 bel lt1) (trodAll_cons_mk (Below.trod frame_laid (by kernel_rfl) (of_decide_eq_true (by kernel_rfl)) k2 bel lt2) trodAll_mk0))), rfl, bel.frame _, fun h => by cases h⟩

theorem LatticeSays_over : Rows.latticeSaysRow.holds Tryd.pinned (OpenSpec.ofChange Rows.latticeSaysSpec) :=
  OpenClaim.holds_of_wide 3 Tryd.f3 rfl rfl rfl rfl rfl rfl rfl ⟨rfl, rfl, rfl, rfl, rfl⟩ rfl rfl rfl rfl rfl (by kernel_rfl) Tryd.func3 (by kernel_rfl)
    (of_decide_eq_true (by kernel_rfl)) (by unfold Func.isWrapper; first | (rw [if_pos (by decide +kernel)]; kernel_rfl) | (rw [if_neg (by decide +kernel)]; exact ⟨rfl, rfl⟩))
    (fun os started H enc _ => frame_lifted os started H enc)

theorem frame_wants : ∀ t ∈ [23, 23, 23], Tryd.prog.wantsStandIn t = false := by
  intro t ht
  simp only [List.mem_cons, List.not_mem_nil, or_false] at ht
  rcases ht with rfl | rfl | rfl <;> kernel_rfl
/-- THE STATEMENT: THE TIED CARD -/
theorem LatticeSays_holds : Rows.LatticeSaysCardSaid :=
  Claim7.holds_tied_plain_at .later [] [.handle] true _ true
    LatticeSays_over (fun _ h => by cases h) (by kernel_rfl) (fun _ h => by cases h) latticeSays_row_tie rfl ⟨rfl, rfl⟩ (by kernel_rfl) rfl
    (fun f fn hf hfn => by
      obtain rfl : f = 3 := Option.some.inj ((show Tryd.prog.funcNamed "rankmere/rankmerelaw4.LatticeSays" = some 3 by kernel_rfl).symm.trans hf) |>.symm
      obtain rfl : fn = Tryd.f3 := (Option.some.inj (Tryd.func3.symm.trans hfn)).symm
      exact ⟨by kernel_rfl, fun j t ht => by
        rw [Tryd.params3] at ht
        exact frame_wants t (by have := Array.mem_of_getElem? ht; simpa using this)⟩)
    (by kernel_rfl)
end Go.Proofs.YtkfkfpfcghobfaaDoor.LatticeSaysP
