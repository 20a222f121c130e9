/- Contract of the reference's Mod. -/
import Derived.Test.YtokneabcgmjhdaaGreatDoorBase
namespace Go.Proofs.YtokneabcgmjhdaaGreatDoor
open Go.RowKit
set_option linter.unusedVariables false
set_option linter.unusedSimpArgs false
theorem rmod_bd (n : Int) : -9973 < n.tmod 9973 ∧ n.tmod 9973 < 9973 := ⟨Int.lt_tmod_of_pos n (by omega), Int.tmod_lt_of_pos n (by omega)⟩
theorem rmod_q (n : Int) : n.tmod 9973 = n - 9973 * n.tdiv 9973 := Int.tmod_def n 9973
theorem rmod_neg (n : Int) (h : n.tmod 9973 < 0) : n.tmod 9973 + 9973 = n % 9973 := by
  have := rmod_bd n
  rw [rmod_q] at *
  generalize n.tdiv 9973 = q at *
  omega
theorem rmod_pos (n : Int) (h : ¬ n.tmod 9973 < 0) : n.tmod 9973 = n % 9973 := by
  have := rmod_bd n
  rw [rmod_q] at *
  generalize n.tdiv 9973 = q at *
  omega
theorem RMod_any (n : Int) (w : World) :
    Calls Tryz.prog 54 #[.int .i64 n] w fun e w' => e = .returned (.int .i64 (n % 9973)) ∧ w = w' := by
  obtain ⟨hb1, hb2⟩ := rmod_bd n
  obtain ⟨t, ht⟩ : ∃ t, t = n.tmod 9973 := ⟨_, rfl⟩
  have h1 := rmod_neg n
  have h2 := rmod_pos n
  rw [← ht] at h1 h2 hb1 hb2
  have HT := ht.symm
  clear ht
  have H1 := Lib.hid h1
  have H2 := Lib.hid h2
  by_cases h : t < 0
  · clear h1 h2
    go_enter Tryz.func54, Tryz.ntmps54
    go_wp2
    go_ret
    exact ⟨ret_int (H1.out h), rfl⟩
  · clear h1 h2
    go_enter Tryz.func54, Tryz.ntmps54
    go_wp2
    go_ret
    exact ⟨ret_int (H2.out h), rfl⟩
end Go.Proofs.YtokneabcgmjhdaaGreatDoor
