/- Contract of num.Mod. -/
import Derived.Test.YthmkokbfeodeoaaDoorMem
namespace Go.Proofs.YthmkokbfeodeoaaDoor
open Go.RowKit
set_option linter.unusedVariables false
set_option linter.unusedSimpArgs false

theorem tmod_bd (n m : Int) (h : 1 ≤ m) : -m < n.tmod m ∧ n.tmod m < m := by
  have h1 := Int.tmod_lt_of_pos n (show 0 < m by omega)
  have h2 := Int.lt_tmod_of_pos n (show 0 < m by omega)
  exact ⟨h2, h1⟩

theorem tmod_emod (n m : Int) (h : 1 ≤ m) : (n.tmod m + m) % m = n % m := by
  rw [Int.add_emod_right, Int.tmod_def, Int.sub_emod, Int.mul_emod_right, Int.sub_zero, Int.emod_emod]

theorem Mod_any (n m : Int) (w : World) (h1 : -4000000000000000000 ≤ n) (h2 : n ≤ 4000000000000000000) (h3 : 1 ≤ m) (h4 : m ≤ 4000000000000000000):
    Calls Tryd.prog 29 #[.int .i64 n, .int .i64 m] w fun e w' => e = .returned (.int .i64 (n % m)) ∧ w = w' := by
  have hb := tmod_bd n m h3
  have HE := Lib.hid (tmod_emod n m h3)
  obtain ⟨hb1, hb2⟩ := hb
  go_enter Tryd.func29, Tryd.ntmps29
  go_wp2
  go_ret
  exact ⟨ret_int HE.out, rfl⟩

end Go.Proofs.YthmkokbfeodeoaaDoor
