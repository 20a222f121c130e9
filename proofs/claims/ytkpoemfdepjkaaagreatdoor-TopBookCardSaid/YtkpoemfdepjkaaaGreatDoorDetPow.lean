/- Contracts of num.Field, num.Power, num.Over. -/
import Derived.Test.YtkpoemfdepjkaaaGreatDoorBase
import Derived.Deep.LoopGhost
namespace Go.Proofs.YtkpoemfdepjkaaaGreatDoor
open Go.RowKit
set_option linter.unusedVariables false
set_option linter.unusedSimpArgs false

theorem Field_any (n : Int) (w : World) (h1 : -4000000000000000000 ≤ n) (h2 : n ≤ 4000000000000000000) :
    Calls Tryz.prog 36 #[.int .i64 n] w fun e w' => e = .returned (.int .i64 (n % 9973)) ∧ w = w' := by
  have hM := fun W => Mod_any n 9973 W h1 h2 (by omega) (by omega)
  generalize n % 9973 = r at *
  go_enter Tryz.func36, Tryz.ntmps36
  go_wp2_with fail
  go_at_call 55
  refine (hM _).mono ?_
  rintro e w1 ⟨rfl, rfl⟩
  go_wp2_with fail
  go_ret
  exact ⟨rfl, rfl⟩

theorem pow_even (o x m : Nat) (h : m % 2 = 0) : (o * (x * x % 9973) ^ (m / 2)) % 9973 = (o * x ^ m) % 9973 := by
  have e : x ^ m = (x * x) ^ (m / 2) := by
    rw [← Nat.pow_two, ← Nat.pow_mul]; congr 1; omega
  rw [Nat.mul_mod, ← Nat.pow_mod, ← Nat.mul_mod, e]
theorem pow_odd (o x m : Nat) (h : m % 2 = 1) : ((o * x % 9973) * (x * x % 9973) ^ (m / 2)) % 9973 = (o * x ^ m) % 9973 := by
  have e : x ^ m = x * (x * x) ^ (m / 2) := by
    rw [← Nat.pow_two, ← Nat.pow_mul, ← Nat.pow_succ']; congr 1; omega
  rw [Nat.mul_mod, Nat.mod_mod, ← Nat.pow_mod, ← Nat.mul_mod, e, Nat.mul_assoc]
theorem Power_any (a n : Nat) (w : World) (ha : a < 9973) (hn : n ≤ 1000000) :
    Calls Tryz.prog 76 #[.int .i64 a, .int .i64 n] w fun e w' => e = .returned (.int .i64 ((a ^ n % 9973 : Nat) : Int)) ∧ w = w' := by
  obtain ⟨R, hR⟩ : ∃ R, R = a ^ n % 9973 := ⟨_, rfl⟩
  rw [← hR]
  have HR := Lib.hid hR
  clear hR
  go_enter Tryz.func76, Tryz.ntmps76
  go_wp2_with fail
  go_loopg [0, 1, 5] (n + 1) (fun g s t u wr => ∃ x m o : Nat, x < 9973 ∧ o < 9973 ∧ m ≤ n ∧ m < g ∧ s = .int .i64 x ∧ t = .int .i64 m ∧ u = .int .i64 o ∧ RowKit.Hid (R = o * x ^ m % 9973) ∧ wr = w)
  case atStart => exact ⟨a, n, 1, ha, by omega, by omega, by omega, rfl, rfl, rfl, Lib.hid (by rw [HR.out, Nat.one_mul]), rfl⟩
  case round =>
    obtain ⟨x, m, o, hx, ho, hm, hg, rfl, rfl, rfl, HI, rfl⟩ := hrel
    by_cases h0 : m = 0
    · subst h0
      have e : o = R := by rw [HI.out, Nat.pow_zero, Nat.mul_one, Nat.mod_eq_of_lt ho]
      have HE := Lib.hid e
      clear e
      go_wp2_with fail
      go_ret
      exact ⟨by rw [← HE.out]; rfl, rfl⟩
    · have hm0 : (0 : Int) < m := by omega
      have hr2 : (m : Int).tmod 2 = ((m % 2 : Nat) : Int) := by rw [Int.tmod_eq_emod_of_nonneg (by omega)]; omega
      have hd2 : (m : Int).tdiv 2 = ((m / 2 : Nat) : Int) := by rw [Int.tdiv_eq_ediv_of_nonneg (by omega)]; omega
      have hwr : IntKind.i64.wrap ((m % 2 : Nat) : Int) = ((m % 2 : Nat) : Int) := IntWalk.i64_in _ (by omega)
      have hwd : IntKind.i64.wrap ((m / 2 : Nat) : Int) = ((m / 2 : Nat) : Int) := IntWalk.i64_in _ (by omega)
      have hxx : x * x ≤ 9973 * 9973 := Nat.mul_le_mul (by omega) (by omega)
      have hox : o * x ≤ 9973 * 9973 := Nat.mul_le_mul (by omega) (by omega)
      have hxx' : (x : Int) * x = ((x * x : Nat) : Int) := by simp
      have hox' : (o : Int) * x = ((o * x : Nat) : Int) := by simp
      have HEV := Lib.hid (pow_even o x m)
      have HOD := Lib.hid (pow_odd o x m)
      obtain ⟨p, hp⟩ : ∃ p, p = x * x := ⟨_, rfl⟩
      obtain ⟨q, hq⟩ : ∃ q, q = o * x := ⟨_, rfl⟩
      rw [← hp] at hxx hxx' HEV HOD
      rw [← hq] at hox hox' HOD
      have hwp : IntKind.i64.wrap ((p : Nat) : Int) = p := IntWalk.i64_in _ (by omega)
      have hwq : IntKind.i64.wrap ((q : Nat) : Int) = q := IntWalk.i64_in _ (by omega)
      have hpm : (p : Int).tmod 9973 = ((p % 9973 : Nat) : Int) := by rw [Int.tmod_eq_emod_of_nonneg (by omega)]; omega
      have hqm : (q : Int).tmod 9973 = ((q % 9973 : Nat) : Int) := by rw [Int.tmod_eq_emod_of_nonneg (by omega)]; omega
      have hpw : IntKind.i64.wrap ((p % 9973 : Nat) : Int) = ((p % 9973 : Nat) : Int) := IntWalk.i64_in _ (by omega)
      have hqw : IntKind.i64.wrap ((q % 9973 : Nat) : Int) = ((q % 9973 : Nat) : Int) := IntWalk.i64_in _ (by omega)
      obtain ⟨p2, hp2⟩ : ∃ p2, p2 = p % 9973 := ⟨_, rfl⟩
      obtain ⟨q2, hq2⟩ : ∃ q2, q2 = q % 9973 := ⟨_, rfl⟩
      obtain ⟨m2, hm2⟩ : ∃ m2, m2 = m / 2 := ⟨_, rfl⟩
      have hp2l : p2 < 9973 := by omega
      have hq2l : q2 < 9973 := by omega
      have hm2l : m2 < m := by omega
      rw [← hp2] at hpm hpw HEV HOD
      rw [← hq2] at hqm hqw HOD
      rw [← hm2] at hd2 hwd HEV HOD
      by_cases hodd : m % 2 = 1
      · rw [hodd] at hr2 hwr
        have HN := Lib.hid (show R = q2 * p2 ^ m2 % 9973 by rw [HI.out, HOD.out hodd])
        clear hp hq hp2 hq2 hm2 hodd hxx hox
        go_wp2_with fail
        go_roundg m
        case measure => omega
        case rel => exact ⟨p2, m2, q2, hp2l, hq2l, by omega, by omega, rfl, rfl, rfl, HN, rfl⟩
      · have hev : m % 2 = 0 := by omega
        rw [hev] at hr2 hwr
        have HN := Lib.hid (show R = o * p2 ^ m2 % 9973 by rw [HI.out, HEV.out hev])
        clear hp hq hp2 hq2 hm2 hodd hxx hox hev
        go_wp2_with fail
        go_roundg m
        case measure => omega
        case rel => exact ⟨p2, m2, o, hp2l, ho, by omega, by omega, rfl, rfl, rfl, HN, rfl⟩
theorem Over_any (a : Nat) (w : World) (ha : a < 9973) :
    Calls Tryz.prog 58 #[.int .i64 a] w fun e w' => e = .returned (.int .i64 (invP a : Int)) ∧ w = w' := by
  have hP : ∀ W, Calls Tryz.prog 76 #[.int .i64 a, .int .i64 9971] W fun e w' => e = .returned (.int .i64 (invP a : Int)) ∧ W = w' := fun W => by
    have := Power_any a 9971 W ha (by omega)
    unfold invP powM
    exact this
  generalize invP a = r at *
  go_enter Tryz.func58, Tryz.ntmps58
  go_wp2_with fail
  go_at_call 76
  refine (hP _).mono ?_
  rintro e w1 ⟨rfl, rfl⟩
  go_wp2_with fail
  go_ret
  exact ⟨rfl, rfl⟩
end Go.Proofs.YtkpoemfdepjkaaaGreatDoor
