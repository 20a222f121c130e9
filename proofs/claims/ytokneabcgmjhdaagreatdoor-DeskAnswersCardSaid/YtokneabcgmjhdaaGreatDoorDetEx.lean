/- Contract of det.of's inner function. -/
import Derived.Test.YtokneabcgmjhdaaGreatDoorBase
import Derived.Test.YtokneabcgmjhdaaGreatDoorTail
import Derived.BigRegion
import Derived.RegionTactic
namespace Go.Proofs.YtokneabcgmjhdaaGreatDoor
open Go.RowKit
set_option linter.unusedVariables false
set_option linter.unusedSimpArgs false

theorem Exch_same (i n B Bl G : Nat) (vs : List Value) (T : List (List Int)) (L : Int) (w w0 : World) (hi : i < n) (hm : BMem w w0 B Bl G n vs T L) :
    Calls Tryz.prog 130 #[.int .i64 i, .int .i64 i, .pointer (some ⟨w.heap.size, 0, none⟩), .pointer (some ⟨Bl, 0, none⟩)] w0 fun e w' => (∃ v, e = .returned v) ∧ w0 = w' := by
  have hii : ((i : Int) != (i : Int)) = false := by simp
  go_enter Tryz.func130, Tryz.ntmps130
  go_wp2_with fail
  go_end0
  exact ⟨⟨_, rfl⟩, rfl⟩
set_option maxRecDepth 100000 in
set_option maxHeartbeats 1000000 in
theorem Exch_other (i k n B Bl G : Nat) (vs : List Value) (T : List (List Int)) (L : Int) (w w0 : World) (hi : i < n) (hk : k < n) (hik : i ≠ k) (hL0 : 0 ≤ L) (hL1 : L < 9973) (hm : BMem w w0 B Bl G n vs T L) :
    Calls Tryz.prog 130 #[.int .i64 i, .int .i64 k, .pointer (some ⟨w.heap.size, 0, none⟩), .pointer (some ⟨Bl, 0, none⟩)] w0 fun e w' => (∃ v, e = .returned v) ∧ BMem w w' B Bl G n (swapVs vs i k) (swapL T i k) ((-L) % 9973) := by
  have hbox := hm.box
  have hlast := hm.last
  have hfree := hm.free
  have hikb : ((i : Int) != (k : Int)) = true := by simp; omega
  obtain ⟨gi, ri, hhi, hvi, _, _, _⟩ := hm.at hi hi
  obtain ⟨gk, rk, hhk, hvk, _, _, _⟩ := hm.at hk hk
  have hfi := (hm.head hi).2
  have hfk := (hm.head hk).2
  have hm2 := hm.swap hi hk
  rw [hvi, hvk] at hm2
  have hm2 : BMem w (((w0.setCell ⟨G, i, none⟩ (.slice (some ⟨gk, 0, none⟩) n rk)).setCell ⟨G, k, none⟩ (.slice (some ⟨gi, 0, none⟩) n ri)).drew) B Bl G n (swapVs vs i k) (swapL T i k) L := hm2.call Cls.start
  obtain ⟨hBG, _⟩ := hm.base
  have hBw := hm.hB
  have hbox1 : (w0.setCell ⟨G, i, none⟩ (.slice (some ⟨gk, 0, none⟩) n rk)).cell? ⟨w.heap.size, 0, none⟩ = some (.slice (some ⟨G, 0, none⟩) n n) := (grown_setCell w0 G i _).cell hbox (by intro he; have he := Option.some.inj he; dsimp only at he; omega)
  have HM2 := Lib.hid hm2
  have hlast2 := hm2.last
  have hfree2 := hm2.free
  have hF := fun W => Field_any (-L) W (by omega) (by omega)
  have hwn : IntKind.i64.wrap (-L) = -L := IntWalk.i64_in _ (by omega)
  have HST := Lib.hid (hm2.setLast ((-L) % 9973))
  generalize (-L) % 9973 = L' at *
  have hi0 : (0 : Int) ≤ i := by omega
  have hi1 : (i : Int) < n := by omega
  have hk0 : (0 : Int) ≤ k := by omega
  have hk1 : (k : Int) < n := by omega
  clear hm hm2 hvi hvk
  go_enter Tryz.func130, Tryz.ntmps130
  go_wp2_with fail
  go_region
  go_wp2_with fail
  go_at_call 92
  refine (hF _).mono ?_
  rintro e w1 ⟨rfl, rfl⟩
  go_wp2_with fail
  go_end0
  exact ⟨⟨_, rfl⟩, HST.out⟩
end Go.Proofs.YtokneabcgmjhdaaGreatDoor
