/- Contracts of the reference's floor, Short and Vecs. -/
import Derived.Test.YtkfkfpfcghobfaaDoorShortC
import Derived.Test.YtkfkfpfcghobfaaDoorRAbs
import Derived.Deep.LoopGhost
namespace Go.Proofs.YtkfkfpfcghobfaaDoor
open Go.RowKit LatMath
set_option linter.unusedVariables false
set_option linter.unusedSimpArgs false

theorem floor_neg (a b : Int) (hb : 1 ≤ b) : -((b - 1 - a) / b) = a / b := by
  have h := Int.mul_ediv_add_emod a b
  have h0 := Int.emod_nonneg a (show b ≠ 0 by omega)
  have h1 := Int.emod_lt_of_pos a (show 0 < b by omega)
  have e : b - 1 - a = (b - 1 - a % b) + b * (-(a / b)) := by rw [Int.mul_neg]; omega
  rw [e, Int.add_mul_ediv_left _ _ (by omega), Int.ediv_eq_zero_of_lt (by omega) (by omega)]
  omega
theorem HFloor_any (a b : Int) (w : World) (h1 : -1000000000000 ≤ a) (h2 : a ≤ 1000000000000) (h3 : 1 ≤ b) (h4 : b ≤ 1000000000000) :
    Calls Tryd.prog 18 #[.int .i64 a, .int .i64 b] w fun e w' => e = .returned (.int .i64 (a / b)) ∧ w = w' := by
  by_cases ha : 0 ≤ a
  · go_enter Tryd.func18, Tryd.ntmps18
    go_wp2_with fail
    go_ret
    exact ⟨rfl, rfl⟩
  · have hf := floor_neg a b h3
    have hq0 : 0 ≤ (b - 1 - a) / b := Int.ediv_nonneg (by omega) (by omega)
    have hq1 : (b - 1 - a) / b ≤ b - 1 - a := Int.ediv_le_self _ (by omega)
    have hn : IntKind.i64.wrap (-((b - 1 - a) / b)) = a / b := by rw [hf]; exact IntWalk.i64_in _ (by omega)
    have HF := Lib.hid hf
    have ha' : a < 0 := by omega
    have hd : (b - 1 - a).tdiv b = (b - 1 - a) / b := Int.tdiv_eq_ediv_of_nonneg (by omega)
    clear hf ha
    go_enter Tryd.func18, Tryd.ntmps18
    go_wp2_with fail
    go_ret
    exact ⟨ret_int (by rw [← HF.out]), rfl⟩

/-- A, B, C are the form of a basis -/
def QF (a b c d A B C : Int) : Prop := ∃ x y z t, Uni a b c d x y z t ∧ A = x * x + y * y ∧ B = 2 * (x * z + y * t) ∧ C = z * z + t * t
theorem QF.swap {a b c d A B C : Int} (h : QF a b c d A B C) : QF a b c d C B A := by
  obtain ⟨x, y, z, t, h1, h2, h3, h4⟩ := h
  exact ⟨z, t, x, y, h1.swap, h4, by rw [h3]; grind, h2⟩
theorem QF.step {a b c d A B C : Int} (h : QF a b c d A B C) (k : Int) : QF a b c d A (B - 2 * k * A) (C - k * B + k * k * A) := by
  obtain ⟨x, y, z, t, h1, h2, h3, h4⟩ := h
  exact ⟨x, y, z - k * x, t - k * y, h1.shear k, h2, by rw [h3, h2]; grind, by rw [h3, h2, h4]; grind⟩
theorem QF.bd {a b c d A B C : Int} (h : QF a b c d A B C) : -(A + C) ≤ B ∧ B ≤ A + C := by
  obtain ⟨x, y, z, t, h1, h2, h3, h4⟩ := h
  have s1 := LatMath.sq_nn (x - z)
  have s2 := LatMath.sq_nn (y - t)
  have s3 := LatMath.sq_nn (x + z)
  have s4 := LatMath.sq_nn (y + t)
  have e1 : (x - z) * (x - z) + (y - t) * (y - t) = A + C - B := by rw [h2, h3, h4]; grind
  have e2 : (x + z) * (x + z) + (y + t) * (y + t) = A + C + B := by rw [h2, h3, h4]; grind
  omega
theorem QF.pos {a b c d A B C : Int} (h : QF a b c d A B C) (h0 : a * d - b * c ≠ 0) : 1 ≤ A ∧ 1 ≤ C := by
  obtain ⟨x, y, z, t, h1, h2, h3, h4⟩ := h
  exact ⟨by rw [h2]; exact uu_pos h1 h0, by rw [h4]; exact uu_pos h1.swap h0⟩
theorem QF.red {a b c d A B C : Int} (h : QF a b c d A B C) (h1 : A ≤ C) (h2 : -A ≤ B) (h3 : B ≤ A) : RedOf a b c d A C := by
  obtain ⟨x, y, z, t, k1, k2, k3, k4⟩ := h
  exact ⟨x, y, z, t, k1, k2, k4, h1, by omega, by omega⟩
/-- rounding -/
theorem qf_near {A B C k : Int} (hA : 1 ≤ A) (hA2 : A ≤ 2000000) (hB : -4000000 ≤ B ∧ B ≤ 4000000) (hk : k = (B + A) / (2 * A)) :
    (-4000000 ≤ k * A ∧ k * A ≤ 4000000) ∧ (-4000000 ≤ k ∧ k ≤ 4000000) ∧ (A < B ∨ B < -A → C - k * B + k * k * A < C) := by
  have h := Int.mul_ediv_add_emod (B + A) (2 * A)
  have h0 := Int.emod_nonneg (B + A) (show 2 * A ≠ 0 by omega)
  have h1 := Int.emod_lt_of_pos (B + A) (show 0 < 2 * A by omega)
  rw [← hk] at h
  generalize (B + A) % (2 * A) = m at *
  have e : 2 * A * k = 2 * (k * A) := by grind
  rw [e] at h
  have hkA : -4000000 ≤ k * A ∧ k * A ≤ 4000000 := by omega
  refine ⟨hkA, ?_, fun hor => ?_⟩
  · rcases Int.lt_or_le 0 k with g | g
    · have : k ≤ k * A := by have := Int.mul_nonneg (show 0 ≤ k by omega) (show 0 ≤ A - 1 by omega); grind
      omega
    · have : k * A ≤ k := by have := Int.mul_nonneg (show 0 ≤ -k by omega) (show 0 ≤ A - 1 by omega); grind
      omega
  · have e2 : C - k * B + k * k * A = C + k * (k * A - B) := by grind
    rw [e2]
    rcases Int.lt_or_le 0 k with g | g
    · have h3 : A ≤ k * A := by have := Int.mul_nonneg (show 0 ≤ k - 1 by omega) (show 0 ≤ A by omega); grind
      have h4 : k * A - B < 0 := by omega
      have := Int.mul_neg_of_pos_of_neg g h4
      omega
    · by_cases hk0 : k = 0
      · subst hk0; simp at h; omega
      · have h3 : k * A + A ≤ 0 := by have := Int.mul_nonneg (show 0 ≤ -1 - k by omega) (show 0 ≤ A by omega); grind
        have h4 : 0 < k * A - B := by omega
        have := Int.mul_neg_of_neg_of_pos (show k < 0 by omega) h4
        omega

set_option maxHeartbeats 2000000 in
theorem HShort_any (a b c d A B C : Int) (w : World) (hq : QF a b c d A B C) (hA : A ≤ 2000000) (hC : C ≤ 2000000) (h0 : a * d - b * c ≠ 0) :
    Calls Tryd.prog 7 #[.int .i64 A, .int .i64 B, .int .i64 C] w fun e w' => (∃ X Y, e = .returned (.tuple #[.int .i64 X, .int .i64 Y]) ∧ RedOf a b c d X Y) ∧ w = w' := by
  have HQ := Lib.hid hq
  have H0 := Lib.hid h0
  clear hq h0
  go_enter Tryd.func7, Tryd.ntmps7
  go_wp2_with fail
  go_loopg [0, 1, 2] (8000002) (fun g s0 s1 s2 wr => ∃ A B C : Int, QF a b c d A B C ∧ A ≤ 2000000 ∧ C ≤ 2000000 ∧ (2 * (A + C) + (if C < A then 1 else 0)).toNat < g ∧ s0 = .int .i64 A ∧ s1 = .int .i64 B ∧ s2 = .int .i64 C ∧ wr = w)
  case atStart => exact ⟨A, B, C, HQ.out, hA, hC, by split <;> omega, rfl, rfl, rfl, rfl⟩
  case round =>
    clear hA hC HQ
    obtain ⟨A, B, C, hq, hA, hC, hg, rfl, rfl, rfl, hw⟩ := hrel
    subst hw
    obtain ⟨p1, p2⟩ := hq.pos H0.out
    obtain ⟨q1, q2⟩ := hq.bd
    have HQ := Lib.hid hq
    obtain ⟨M, hM⟩ : ∃ M, M = (2 * (A + C) + (if C < A then 1 else 0)).toNat := ⟨_, rfl⟩
    rw [← hM] at hg
    have HGK := Lib.hid hg
    clear hq hg
    by_cases hca : C < A
    · have hsw := Lib.hid HQ.out.swap
      have HGM := Lib.hid (show (2 * (C + A) + (if A < C then 1 else 0)).toNat < M by rw [hM, if_pos hca, if_neg (by omega)]; omega)
      clear hM
      go_wp2_with fail
      go_roundg M
      case measure => exact HGK.out
      case rel => exact ⟨C, B, A, hsw.out, hC, hA, HGM.out, rfl, rfl, rfl, rfl⟩
    · have hac : A ≤ C := by omega
      have hab := RAbs_any B wr (by omega) (by omega)
      have hab2 : absI B = if B < 0 then -B else B := rfl
      by_cases hbb : A < absI B
      · obtain ⟨k, hk⟩ : ∃ k, k = (B + A) / (2 * A) := ⟨_, rfl⟩
        obtain ⟨⟨k1, k2⟩, ⟨k3, k4⟩, k5⟩ := qf_near (C := C) p1 hA ⟨by omega, by omega⟩ hk
        have hC' := k5 (by rw [hab2] at hbb; split at hbb <;> omega)
        clear hab2
        have hst := HQ.out.step k
        obtain ⟨r1, r2⟩ := hst.pos H0.out
        obtain ⟨t1, t2⟩ := hst.bd
        have hfl := HFloor_any (B + A) (2 * A) wr (by omega) (by omega) (by omega) (by omega)
        rw [← hk] at hfl
        have hkB := mul_bd k B 4000000 4000000 (by omega) (by omega) (by omega) (by omega)
        have hkk := mul_bd k k 4000000 4000000 (by omega) (by omega) (by omega) (by omega)
        have hkka : k * k * A = k * (k * A) := by grind
        have hkkA := mul_bd k (k * A) 4000000 4000000 (by omega) (by omega) (by omega) (by omega)
        have h2k : 2 * k * A = 2 * (k * A) := by grind
        have HST := Lib.hid hst
        have HAB := Lib.hid hab
        have HFL := Lib.hid hfl
        have HGM := Lib.hid (show (2 * (A + (C - k * B + k * k * A)) + (if C - k * B + k * k * A < A then 1 else 0)).toNat < M by
          rw [hM, if_neg hca]
          split <;> omega)
        have hw1 : IntKind.i64.wrap (k * B) = k * B := IntWalk.i64_in _ (by omega)
        have hw2 : IntKind.i64.wrap (C - k * B) = C - k * B := IntWalk.i64_in _ (by omega)
        have hw3 : IntKind.i64.wrap (k * k) = k * k := IntWalk.i64_in _ (by omega)
        have hw4 : IntKind.i64.wrap (k * k * A) = k * k * A := IntWalk.i64_in _ (by omega)
        have hw5 : IntKind.i64.wrap (C - k * B + k * k * A) = C - k * B + k * k * A := IntWalk.i64_in _ (by omega)
        have hw6 : IntKind.i64.wrap (2 * k * A) = 2 * k * A := IntWalk.i64_in _ (by omega)
        have hw7 : IntKind.i64.wrap (B - 2 * k * A) = B - 2 * k * A := IntWalk.i64_in _ (by omega)
        have hCn : C - k * B + k * k * A ≤ 2000000 := by omega
        clear hM hk k5 hC' hst hab hfl hkB hkk hkka hkkA h2k r1 r2 t1 t2 k1 k2
        go_wp2_with (first
          | (go_at_call 8; refine HAB.out.mono ?_; rintro e w4 ⟨rfl, rfl⟩)
          | (go_at_call 18; refine HFL.out.mono ?_; rintro e w5 ⟨rfl, rfl⟩))
        go_roundg M
        case measure => exact HGK.out
        case rel => exact ⟨A, _, _, HST.out, hA, hCn, HGM.out, rfl, rfl, rfl, rfl⟩
      · have hred := HQ.out.red hac (by rw [hab2] at hbb; split at hbb <;> omega) (by rw [hab2] at hbb; split at hbb <;> omega)
        have HRED := Lib.hid hred
        have HAB := Lib.hid hab
        have hbb' : absI B ≤ A := by omega
        clear hM hred hab hab2
        go_wp2_with (go_at_call 8; refine HAB.out.mono ?_; rintro e w4 ⟨rfl, rfl⟩)
        go_ret2
        exact ⟨⟨_, _, rfl, HRED.out⟩, rfl⟩
end Go.Proofs.YtkfkfpfcghobfaaDoor
