/- Contract of slices.Clone of integers. -/
import Derived.Test.YtijlhdgagaehaaaDoorMem
import Derived.Lib.SliceRun
import Derived.Laws.OwnMore
import Derived.Test.YtijlhdgagaehaaaDoorSnoc
namespace Go.Proofs.YtijlhdgagaehaaaDoor
open Go.RowKit
set_option linter.unusedVariables false
set_option linter.unusedSimpArgs false

theorem Clone_any (b off n cap : Nat) (xs : List Int) (w : World) (hx : IntsAt w (some ⟨b, off, none⟩) n xs) (hn : n ≤ 1000000) :
    Calls Tryd.prog 29 #[.slice (some ⟨b, off, none⟩) n cap] w fun e w' => (∃ v, e = .returned v ∧ OwnInts w' w.heap.size v xs) ∧ Below w.heap.size w w' := by
  obtain ⟨ii, hi, hz0, hz1, hz2⟩ := info_parts info_int
  have hml : (xs.map (Value.int .i64)).length = n := by rw [List.length_map, hx.1]
  have HML := Lib.hid hml
  have hxl := hx.1
  have hown0 := World.ownsRow_lit (base := w.heap.size) (e := 3) (size := 1) w #[] 0 (Nat.le_refl _) (by unfold maxLen; omega) rfl
  have HC := Lib.hid (cells_of_ints (hx.call ((Below.refl _ w).alloc (Nat.le_refl _) (.cells #[] 3))))
  have HXL := Lib.hid hxl
  clear hx hxl hml
  have hnil := fun W => Go.Lib.run_eql_slice_nil (P := Tryd.prog) W 23 3 (some ⟨b, off, none⟩) n cap 0 0 Tryd.underlying23
  go_enter Tryd.func29, Tryd.ntmps29
  go_wp2_with (at_builtin; refine wpList_append_own1 (o := ⟨some 7, _, _, _, _, _⟩) rfl _ _ 23 rfl w.heap.size 3 ii (.int .i64 0) 8 Tryd.underlying23 hi hz0 hz1 hz2 rfl _ 0 [] rfl hown0 _ n _ (xs.map (Value.int .i64)) rfl HML.out (fun h => by cases h) (fun j u h => HC.out j u h) (ints_oneCell _ _) (by unfold maxLen; omega) (by omega) (by simp) ?_; intro v2 w2 hown2 hgrow2)
  have hb2 : Below w.heap.size w w2 := ((Below.refl _ w).alloc (Nat.le_refl _) _).trans (grown_below hgrow2 (by simp) (fun k hk => (World.ownsRow.lt hown0 k hk).1))
  have ho2 : OwnInts w2 w.heap.size v2 xs := by
    unfold OwnInts
    rw [HXL.out]
    simpa using hown2
  have HO2 := Lib.hid ho2
  clear hown2 ho2
  go_wp2_with fail
  go_ret
  exact ⟨⟨_, rfl, HO2.out⟩, hb2⟩
end Go.Proofs.YtijlhdgagaehaaaDoor
