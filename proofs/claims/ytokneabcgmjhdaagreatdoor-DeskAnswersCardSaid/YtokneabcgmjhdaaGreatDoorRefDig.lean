/- Contracts of the reference for books: in, Digits, Sum. -/
import Derived.Test.YtokneabcgmjhdaaGreatDoorBookNote
import Derived.Test.YtokneabcgmjhdaaGreatDoorBase
namespace Go.Proofs.YtokneabcgmjhdaaGreatDoor
open Go.RowKit
set_option linter.unusedVariables false
set_option linter.unusedSimpArgs false

theorem rin_any (n lo hi : Int) (w : World) :
    Calls Tryz.prog 51 #[.int .i64 n, .int .i64 lo, .int .i64 hi] w fun e w' => e = .returned (.bool (inB n lo hi)) ∧ w = w' := by
  by_cases h1 : lo ≤ n <;> by_cases h2 : n ≤ hi
  all_goals
    go_enter Tryz.func51, Tryz.ntmps51
    go_wp2
    go_ret
    exact ⟨ret_bool (by simp [inB, h1, h2]), rfl⟩

theorem dig_big {u : Nat} (h : ¬ u < 10) : dig (u : Int) = dig ((u / 10 : Nat) : Int) ++ dig ((u % 10 : Nat) : Int) := by
  unfold dig
  rw [Lib.itoa_nonneg, Lib.itoa_nonneg, Lib.itoa_nonneg, Lib.decDigits, dif_neg h, Lib.decDigits_one (show u % 10 < 10 by omega)]
  apply ByteArray.ext
  simp
theorem dig_one {u : Nat} (h : u < 10) : (⟨#[48, 49, 50, 51, 52, 53, 54, 55, 56, 57]⟩ : ByteArray).extract u (u + 1) = dig (u : Int) := by
  unfold dig
  rw [Lib.itoa_nonneg, Lib.decDigits_one h]
  have : u = 0 ∨ u = 1 ∨ u = 2 ∨ u = 3 ∨ u = 4 ∨ u = 5 ∨ u = 6 ∨ u = 7 ∨ u = 8 ∨ u = 9 := by omega
  rcases this with rfl | rfl | rfl | rfl | rfl | rfl | rfl | rfl | rfl | rfl <;> rfl

theorem dig_len (u : Nat) (h : u ≤ 9223372036854775807) : (dig (u : Int)).size ≤ 21 := by
  have := Lib.itoa_length_le (u : Int) (by omega) (by omega)
  show (Lib.itoa (u : Int)).toArray.size ≤ 21
  simpa using this
set_option maxRecDepth 100000 in
theorem Digits_any (u : Nat) : ∀ (w : World), u ≤ 9223372036854775807 →
    Calls Tryz.prog 11 #[.int .i64 (u : Int)] w fun e w' => e = .returned (.string (dig (u : Int))) ∧ Below w.heap.size w w' := by
  induction u using Nat.strongRecOn with
  | _ u ih =>
    intro w hu
    by_cases h : u < 10
    · have hd := Lib.hid (dig_one h)
      have h1 : (u : Int) < 10 := by omega
      have hs10 : (⟨#[48, 49, 50, 51, 52, 53, 54, 55, 56, 57]⟩ : ByteArray).size = 10 := rfl
      have h9 : ¬ (10 : Int) < (u : Int) + 1 := by omega
      have h11 : ¬ (u : Int) + 1 < (u : Int) := by omega
      have h0 : (0 : Int) ≤ u := by omega
      clear ih
      go_enter Tryz.func11, Tryz.ntmps11
      go_wp2_with fail

      go_ret
      exact ⟨by rw [← hd.out]; rfl, Below.refl _ _⟩
    · have hd := Lib.hid (dig_big h)
      have h1 : ¬ (u : Int) < 10 := by omega
      have IH1 := Lib.hid (fun W => ih (u / 10) (by omega) W (by omega))
      have IH2 := Lib.hid (fun W => ih (u % 10) (by omega) W (by omega))
      have hz1 := dig_len u hu
      have hf := hz1
      rw [dig_big h, ByteArray.size_append] at hf
      have hf1 : ¬ 9223372036854775807 < (dig ((u / 10 : Nat) : Int)).size + (dig ((u % 10 : Nat) : Int)).size := by omega
      clear ih hz1 hf
      go_enter Tryz.func11, Tryz.ntmps11
      go_wp2_with fail
      go_at_call 11
      refine (IH1.out _).mono ?_
      rintro e w1 ⟨rfl, hb1⟩
      go_wp2_with fail
      go_at_call 11
      refine (IH2.out _).mono ?_
      rintro e w2 ⟨rfl, hb2⟩
      go_wp2_with fail
      go_ret
      exact ⟨by rw [hd.out]; rfl, below_trans hb1 hb2⟩
end Go.Proofs.YtokneabcgmjhdaaGreatDoor
