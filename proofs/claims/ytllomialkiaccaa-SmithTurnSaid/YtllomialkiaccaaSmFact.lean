/- The closed fact on invariant factors. -/
import Derived.Test.YtllomialkiaccaaSmith
import Derived.Test.YtllomialkiaccaaHerFact
import Derived.Test.YtllomialkiaccaaESame
namespace Go.Proofs.Ytllomialkiaccaa
open Go.RowKit
set_option linter.unusedVariables false
set_option linter.unusedSimpArgs false

theorem fact_parts : herErr [[2, 0], [0, 3]] = 0 ∧ partsTo 2 (fn [[2, 0], [0, 3]]) 2 = [1, 6] := by decide +kernel

set_option maxHeartbeats 1000000 in
theorem smithFact_any (w : World) :
    Calls Try.prog 6 #[] w fun e w' => e = .returned (.bool true) ∧ Below w.heap.size w w' := by
  obtain ⟨e1, e2⟩ := fact_parts
  have hF := Lib.hid (fun a W (h : RowsAt W a 2 [[2, 0], [0, 3]]) => Parts_good a 2 2 [[2, 0], [0, 3]] W h (by omega) (small2 _ _ _ _) e1)
  rw [e2] at hF
  clear e1 e2
  go_enter Try.func6, Try.ntmps6
  go_wp2_with fail
  go_at_call 7
  refine (hF.out _ _ (two_rows _ _ _ _ _ _ w.heap.size (w.heap.size + 1) (by go_simp) (by go_simp) (by go_simp) (by go_simp) (by go_simp) (by go_simp))).mono ?_
  rintro e w1 ⟨⟨v, rfl, hO⟩, hb⟩
  have hB1 := below_trans ((((Below.refl w.heap.size w).alloc (Nat.le_refl _) _).alloc (by simp) _).alloc (by simp; omega) _) hb
  obtain ⟨va, cap, rfl, _, _, _, hI⟩ := hO.shape
  have HI := Lib.hid hI
  clear hb hF hO hI
  go_wp2_with fail
  go_at_call 13
  have hba : Below w1.heap.size w1 (w1.alloc (.cells #[.int .i64 1, .int .i64 6] 3)) := (Below.refl w1.heap.size w1).alloc (Nat.le_refl _) _
  refine (EInts_like _ _ 2 _ _ [1, 6] _ (HI.out.call hba) (IntsAt_two _ _ _ _ (by go_simp) (by go_simp)) (by omega)).mono ?_
  rintro e w4 ⟨rfl, hb⟩
  go_wp2_with fail
  go_ret
  exact ⟨rfl, below_trans hB1 (below_trans hba hb)⟩
end Go.Proofs.Ytllomialkiaccaa
