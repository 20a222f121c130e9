/- Contract of the reference's Vecs. -/
import Derived.Test.YtkfkfpfcghobfaaDoorLatC
import Derived.Test.YtkfkfpfcghobfaaDoorLatMath
namespace Go.Proofs.YtkfkfpfcghobfaaDoor
open Go.RowKit LatMath
set_option linter.unusedVariables false
set_option linter.unusedSimpArgs false

theorem hin_any (n lo hi : Int) (w : World) :
    Calls Tryd.prog 14 #[.int .i64 n, .int .i64 lo, .int .i64 hi] w fun e w' => e = .returned (.bool (inB n lo hi)) ∧ w = w' := by
  by_cases h1 : lo ≤ n <;> by_cases h2 : n ≤ hi
  all_goals
    go_enter Tryd.func14, Tryd.ntmps14
    go_wp2
    go_ret
    exact ⟨ret_bool (by simp [inB, h1, h2]), rfl⟩

theorem Vecs_any (a b c d : Int) (w : World) :
    Calls Tryd.prog 4 #[vec a b, vec c d] w fun e w' => e = .returned (.int .i64 (vecsErr a b c d)) ∧ Below w.heap.size w w' := by
  have hin : ∀ x, inB x (-1000) 1000 = !outB (-1000) 1000 x := by
    intro x; simp only [inB, outB]; by_cases h1 : -1000 ≤ x <;> by_cases h2 : x ≤ 1000 <;> simp [h1, h2] <;> omega
  cases h1 : inB a (-1000) 1000
  · have E : vecsErr a b c d = 1 := by rw [hin] at h1; simp [vecsErr, anyOut] ; simp at h1; simp [h1]
    rw [E]
    clear E hin
    go_enter Tryd.func4, Tryd.ntmps4
    go_wp2_with (go_at_call 14; refine (hin_any _ _ _ _).mono ?_; rintro e w' ⟨rfl, rfl⟩)
    go_ret
    exact ⟨rfl, ((Below.refl _ _).alloc (Nat.le_refl _) _).alloc (by simp) _⟩
  · cases h2 : inB b (-1000) 1000
    · have E : vecsErr a b c d = 1 := by rw [hin] at h2; simp [vecsErr, anyOut] ; simp at h2; simp [h2]
      rw [E]
      clear E hin
      go_enter Tryd.func4, Tryd.ntmps4
      go_wp2_with (go_at_call 14; refine (hin_any _ _ _ _).mono ?_; rintro e w' ⟨rfl, rfl⟩)
      go_ret
      exact ⟨rfl, ((Below.refl _ _).alloc (Nat.le_refl _) _).alloc (by simp) _⟩
    · cases h3 : inB c (-1000) 1000
      · have E : vecsErr a b c d = 1 := by rw [hin] at h3; simp [vecsErr, anyOut] ; simp at h3; simp [h3]
        rw [E]
        clear E hin
        go_enter Tryd.func4, Tryd.ntmps4
        go_wp2_with (go_at_call 14; refine (hin_any _ _ _ _).mono ?_; rintro e w' ⟨rfl, rfl⟩)
        go_ret
        exact ⟨rfl, ((Below.refl _ _).alloc (Nat.le_refl _) _).alloc (by simp) _⟩
      · cases h4 : inB d (-1000) 1000
        · have E : vecsErr a b c d = 1 := by rw [hin] at h4; simp [vecsErr, anyOut] ; simp at h4; simp [h4]
          rw [E]
          clear E hin
          go_enter Tryd.func4, Tryd.ntmps4
          go_wp2_with (go_at_call 14; refine (hin_any _ _ _ _).mono ?_; rintro e w' ⟨rfl, rfl⟩)
          go_ret
          exact ⟨rfl, ((Below.refl _ _).alloc (Nat.le_refl _) _).alloc (by simp) _⟩
        · have E : vecsErr a b c d = if a * d = b * c then 6 else 0 := by
            rw [hin] at h1 h2 h3 h4
            simp at h1 h2 h3 h4
            simp [vecsErr, anyOut, h1, h2, h3, h4]
            by_cases he : a * d = b * c
            · simp [he]
            · rw [if_neg he, if_neg (by omega)]
          have g := mul_bd a d 1000 1000 (by simp [inB] at h1; omega) (by simp [inB] at h1; omega) (by simp [inB] at h4; omega) (by simp [inB] at h4; omega)
          have g2 := mul_bd b c 1000 1000 (by simp [inB] at h2; omega) (by simp [inB] at h2; omega) (by simp [inB] at h3; omega) (by simp [inB] at h3; omega)
          obtain ⟨g3, g4⟩ := g2
          obtain ⟨g5, g6⟩ := g
          rw [E]
          clear E hin
          by_cases he : a * d = b * c
          · rw [if_pos he]
            have heq : ((a * d) == (b * c)) = true := by simp [he]
            clear he
            go_enter Tryd.func4, Tryd.ntmps4
            go_wp2_with (go_at_call 14; refine (hin_any _ _ _ _).mono ?_; rintro e w' ⟨rfl, rfl⟩)
            go_ret
            exact ⟨rfl, ((Below.refl _ _).alloc (Nat.le_refl _) _).alloc (by simp) _⟩
          · rw [if_neg he]
            have heq : ((a * d) == (b * c)) = false := by simp [he]
            clear he
            go_enter Tryd.func4, Tryd.ntmps4
            go_wp2_with (go_at_call 14; refine (hin_any _ _ _ _).mono ?_; rintro e w' ⟨rfl, rfl⟩)
            go_ret
            exact ⟨rfl, ((Below.refl _ _).alloc (Nat.le_refl _) _).alloc (by simp) _⟩
end Go.Proofs.YtkfkfpfcghobfaaDoor
