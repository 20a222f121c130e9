/- Contract of num.Grid. -/
import Derived.Test.YtkpoemfdepjkaaaGreatDoorBase
import Derived.Deep.LoopGhost
namespace Go.Proofs.YtkpoemfdepjkaaaGreatDoor
open Go.RowKit
set_option linter.unusedVariables false
set_option linter.unusedSimpArgs false


/-- rows of zeros, k of them made -/
def gridTo (r c k : Nat) : List (List Int) := List.replicate k (List.replicate c 0) ++ List.replicate (r - k) []
theorem gridTo_len (r c k : Nat) (hk : k ≤ r) : (gridTo r c k).length = r := by simp [gridTo]; omega
theorem gridTo_set (r c k : Nat) (hk : k < r) : (gridTo r c k).set k (List.replicate c 0) = gridTo r c (k + 1) := by
  unfold gridTo
  rw [List.set_append_right _ _ (by simp)]
  rw [List.length_replicate, Nat.sub_self, show r - k = (r - (k + 1)) + 1 from by omega, List.replicate_succ, List.set_cons_zero, List.replicate_succ', List.append_assoc]
  rfl

theorem Grid_any (r c : Nat) (w : World) (hr : r ≤ 1000000) (hc : c ≤ 1000000) :
    Calls Tryz.prog 35 #[.int .i64 r, .int .i64 c] w fun e w' => (∃ G, ∃ vs, e = .returned (.slice (some ⟨G, 0, none⟩) r r) ∧ OwnRowsV w' w.heap.size (.slice (some ⟨G, 0, none⟩) r r) vs (List.replicate r (List.replicate c 0))) ∧ Below w.heap.size w w' := by
  obtain ⟨ii, hi, hz0, hz1, hz2⟩ := info_parts info_int
  obtain ⟨ji, hj, hy0, hy1, hy2⟩ := info_parts info_ints
  obtain ⟨B, hB⟩ : ∃ B, B = w.heap.size := ⟨_, rfl⟩
  rw [← hB]
  have HB := Lib.hid hB
  have hBle : B ≤ w.heap.size := by omega
  clear hB
  go_enter Tryz.func35, Tryz.ntmps35
  go_wp2_with (at_make; refine wpList_make_full _ rfl _ _ 22 rfl B 45 ji (.slice none 0 0) 1 Tryz.underlying22 hj hy0 hy1 _ _ _ _ r rfl rfl rfl rfl (by rw [hy2]; omega) (by unfold maxLen; omega) hBle ?_; intro w1 hown1 hgrow1)
  generalize hG : w.heap.size = G at *
  go_loopg [11] (r + 1) (fun g i wr => ∃ k : Nat, k ≤ r ∧ r - k < g ∧ i = .int .i64 k ∧ (∃ vs, OwnRowsV wr B (.slice (some ⟨G, 0, none⟩) r r) vs (gridTo r c k)) ∧ Below B w wr ∧ B ≤ wr.heap.size)
  case atStart =>
    refine ⟨0, by omega, by omega, rfl, ⟨_, by simpa [gridTo] using vals_made hown1⟩, grown_below hgrow1 (by omega) (fun k hk => by cases hk), ?_⟩
    have := hgrow1.size
    omega
  case round =>
    obtain ⟨k, hk, hg, rfl, ⟨vs, hvs⟩, hbel, hsz⟩ := hrel
    clear hown1 hgrow1
    by_cases hlt : k < r
    · have hfz := hvs.free k
      have hcell := hvs.isCell (k := k) (by rw [gridTo_len r c k hk]; exact hlt)
      obtain ⟨hbG, hlG⟩ := hvs.base
      generalize vs.getD k undef = u at hcell
      have HVS := Lib.hid hvs
      clear hvs
      go_wp2_with (at_make; refine wpList_make_full _ rfl _ _ 45 rfl wr.heap.size 3 ii (.int .i64 0) 1 Tryz.underlying45 hi hz0 hz1 _ _ _ _ c rfl rfl rfl rfl (by rw [hz2]; omega) (by unfold maxLen; omega) (Nat.le_refl _) ?_; intro w2 hown2 hgrow2; have hcell2 := hgrow2.cell hcell (by simp); have hfz2 := (fresh1 hgrow2).frozen (p := ⟨G, k, none⟩) hlG)
      have hf1 := fresh1 hgrow2
      have hp := OwnRowsV.put HVS.out hsz hf1 (ints_made hown2) k (by rw [gridTo_len r c k hk]; exact hlt)
      rw [gridTo_set r c k hlt] at hp
      have hbel2 := (hbel.trans (hf1.mono hsz)).setCell (p := ⟨G, k, none⟩) hbG (.slice (some ⟨wr.heap.size, 0, none⟩) c c)
      go_roundg (r - k)
      case measure => omega
      case rel =>
        refine ⟨k + 1, by omega, by omega, by go_num, ⟨_, hp⟩, hbel2, ?_⟩
        have := hf1.size
        rw [Go.Deep.nblk_setCell]
        omega
    · obtain rfl : k = r := by omega
      have e : gridTo k c k = List.replicate k (List.replicate c 0) := by simp [gridTo]
      rw [e] at hvs
      have HVS := Lib.hid hvs
      clear hvs e
      go_wp2_with fail
      go_ret
      exact ⟨⟨_, _, rfl, HVS.out⟩, hbel⟩
end Go.Proofs.YtkpoemfdepjkaaaGreatDoor
