/- Contract of the reference's Set: where nothing is wrong. -/
import Derived.Test.YtokneabcgmjhdaaGreatDoorRefOps
namespace Go.Proofs.YtokneabcgmjhdaaGreatDoor
open Go.RowKit
set_option linter.unusedVariables false
set_option linter.unusedSimpArgs false

theorem setErr_ok {i j n : Int} {L : Nat} (he : setErr i j n L = 0) : placeErr i j n = 0 ∧ L < 60 := by
  unfold setErr at he
  by_cases h : placeErr i j n = 0
  · rw [if_neg (by omega)] at he
    refine ⟨h, ?_⟩
    by_cases h6 : 60 ≤ L
    · rw [if_pos h6] at he; cases he
    · omega
  · rw [if_pos h] at he; exact absurd he h

set_option maxRecDepth 100000 in
set_option maxHeartbeats 1000000 in
theorem RSet_good (a : Option Addr) (cap : Nat) (text : ByteArray) (many : Nat) (i j n : Int) (rows : List (List Int)) (w : World) (hr : RowsAt w a 4 rows) (hsq : Sq 4 rows) (hcap : 4 ≤ cap) (ht : text.size ≤ 100000) (he : setErr i j n many = 0) :
    Calls Tryz.prog 32 #[refV a cap text many, .int .i64 i, .int .i64 j, .int .i64 n] w fun e w' => (∃ a' cap', e = .returned (.tuple #[refV a' cap' (gain text wordS [i, j, n]) ((many : Int) + 1), .int .i64 0]) ∧ OwnRows w' w.heap.size (.slice a' 4 cap') (putE rows i.toNat j.toNat n) ∧ 4 ≤ cap') ∧ Below w.heap.size w w' := by
  obtain ⟨hp, hL⟩ := setErr_ok he
  obtain ⟨⟨hi0, hi3⟩, ⟨hj0, hj3⟩, hn0, hn3⟩ := placeErr_ok hp
  have e1 := inB_yes hi0 hi3
  have e2 := inB_yes hj0 hj3
  have e3 := inB_yes hn0 hn3
  obtain ⟨p, rfl⟩ : ∃ p : Nat, i = p := ⟨i.toNat, by omega⟩
  obtain ⟨q, rfl⟩ : ∃ q : Nat, j = q := ⟨j.toNat, by omega⟩
  obtain ⟨m, rfl⟩ : ∃ m : Nat, n = m := ⟨n.toNat, by omega⟩
  have hpn : p < 4 := by omega
  have hqn : q < 4 := by omega
  rw [show (p : Int).toNat = p by omega, show (q : Int).toNat = q by omega]
  have hL' : (many : Int) < 60 := by omega
  have HR := Lib.hid hr
  have HSQ := Lib.hid hsq
  have HCP := Lib.hid (fun (W : World) (h : RowsAt W a 4 rows) => RCopy_any a 4 cap rows W h (by omega) hcap (fun k hk => by rw [hsq.2 k hk]; omega))
  have HD := Lib.hid (fun a' cap' W => Down_any a' cap' text wordS many p q m W ht rfl (by omega) (by omega) (by omega) (by omega))
  have hp0 : (0 : Int) ≤ p := by omega
  have hq0 : (0 : Int) ≤ q := by omega
  have hp4 : (p : Int) < 4 := by omega
  have hq4 : (q : Int) < 4 := by omega
  clear hr hsq he hp hL hi0 hi3 hj0 hj3 hn0 hn3
  go_enter Tryz.func32, Tryz.ntmps32
  go_wp2_with (go_at_call 51; refine (rin_any _ _ _ _).mono ?_; rintro e w1 ⟨rfl, rfl⟩)
  go_at_call 52
  refine (HCP.out _ (HR.out.call (((Below.refl _ _).alloc (Nat.le_refl _) _).alloc (by simp) _))).mono ?_
  rintro e w1 ⟨⟨v, rfl, ho⟩, hb1⟩
  obtain ⟨vs, hvs⟩ := ho.vals
  obtain ⟨G, c1, rfl, hc1⟩ := hvs.isRows (by rw [HSQ.out.1]; omega)
  rw [HSQ.out.1] at hvs hc1 ⊢
  have hlt0 : w.heap.size < (w.alloc (.cells #[.slice a 4 cap, .string text, .int .i64 many] 48)).heap.size := by simp
  have hbx : w1.heap[w.heap.size]? = some (.cells #[.slice a 4 cap, .string text, .int .i64 many] 48 (0, 0)) := by
    rw [hb1.block _ (by simp; omega), heap_alloc_old _ _ hlt0]; exact heap_alloc_new _ _
  have hby : w1.heap[w.heap.size + 1]? = some (boxO (.slice none 0 0)) := by
    rw [hb1.block _ (by simp)]; exact heap_alloc2_new _ _ _
  have hbel1 : Below w.heap.size w w1 := (((Below.refl _ _).alloc (Nat.le_refl _) _).alloc (by simp) _).trans (hb1.mono (by simp; omega))
  have q0 : w1.cell? ⟨w.heap.size, 0, none⟩ = some (.slice a 4 cap) := by simp [World.cell?, hbx]
  have f0 : w1.frozen? ⟨w.heap.size, 0, none⟩ = false := by simp [World.frozen?, hbx]
  clear hb1
  simp only [World.size_alloc] at hvs
  have hst := hvs.storeLow (g := w.heap.size) (by omega) 0 (.slice (some ⟨G, 0, none⟩) 4 c1)
  have hbx2 : (w1.setCell ⟨w.heap.size, 0, none⟩ (.slice (some ⟨G, 0, none⟩) 4 c1)).heap[w.heap.size]? = some (.cells #[.slice (some ⟨G, 0, none⟩) 4 c1, .string text, .int .i64 many] 48 (0, 0)) := by
    show (w1.heap.modify w.heap.size _)[w.heap.size]? = _
    rw [Array.getElem?_modify, if_pos rfl, hbx]
    rfl
  have hby2 : (w1.setCell ⟨w.heap.size, 0, none⟩ (.slice (some ⟨G, 0, none⟩) 4 c1)).heap[w.heap.size + 1]? = some (boxO (.slice none 0 0)) := by
    rw [heap_setCell_other _ _ _ _ (by simp)]; exact hby
  have hbel2 := hbel1.setCell (p := ⟨w.heap.size, 0, none⟩) (Nat.le_refl _) (.slice (some ⟨G, 0, none⟩) 4 c1)
  go_upto_region 6 with (fail)
  generalize w1.setCell ⟨w.heap.size, 0, none⟩ (.slice (some ⟨G, 0, none⟩) 4 c1) = w2 at *
  obtain ⟨g, rc, c1', gB, gL, gG, gE, gF, gC, gS⟩ := hst.at HSQ.out hpn hqn
  have hst3 := gS m
  have q1 : w2.cell? ⟨w.heap.size, 0, none⟩ = some (.slice (some ⟨G, 0, none⟩) 4 c1) := by simp [World.cell?, hbx2]
  have hbx3 : (w2.setCell ⟨g, q, none⟩ (.int .i64 m)).heap[w.heap.size]? = some (.cells #[.slice (some ⟨G, 0, none⟩) 4 c1, .string text, .int .i64 many] 48 (0, 0)) := by
    rw [heap_setCell_other _ _ _ _ (by show w.heap.size ≠ g; omega)]; exact hbx2
  have hby3 : (w2.setCell ⟨g, q, none⟩ (.int .i64 m)).heap[w.heap.size + 1]? = some (boxO (.slice none 0 0)) := by
    rw [heap_setCell_other _ _ _ _ (by show w.heap.size + 1 ≠ g; omega)]; exact hby2
  have hbel3 := hbel2.setCell (p := ⟨g, q, none⟩) (by show w.heap.size ≤ g; omega) (.int .i64 m)
  clear hst gS gE hbx hby q0 f0 hvs ho hbel1 hbx2 hby2 hbel2
  go_upto_region 7 with (fail)
  generalize w2.setCell ⟨g, q, none⟩ (.int .i64 m) = w3 at *
  have p0 : w3.cell? ⟨w.heap.size, 0, none⟩ = some (.slice (some ⟨G, 0, none⟩) 4 c1) := by simp [World.cell?, hbx3]
  have p1 : w3.cell? ⟨w.heap.size, 1, none⟩ = some (.string text) := by simp [World.cell?, hbx3]
  have p2 : w3.cell? ⟨w.heap.size, 2, none⟩ = some (.int .i64 many) := by simp [World.cell?, hbx3]
  have l3 := (Array.getElem?_eq_some_iff.1 hby3).1
  clear c1' gF gC q1 gL w1 w2
  go_wp2_with fail
  go_at_call 53
  refine (HD.out _ _ _).mono ?_
  rintro e w4 ⟨rfl, hb4⟩
  have hby4 : w4.heap[w.heap.size + 1]? = some (boxO (.slice none 0 0)) := by rw [hb4.block _ l3]; exact hby3
  have s0 : w4.cell? ⟨w.heap.size + 1, 0, none⟩ = some (.slice none 0 0) := by simp [World.cell?, hby4]
  have s1 : w4.cell? ⟨w.heap.size + 1, 1, none⟩ = some (.string ⟨#[]⟩) := by simp [World.cell?, hby4]
  have s2 : w4.cell? ⟨w.heap.size + 1, 2, none⟩ = some (.int .i64 0) := by simp [World.cell?, hby4]
  have t0 : w4.frozen? ⟨w.heap.size + 1, 0, none⟩ = false := by simp [World.frozen?, hby4]
  have t1 : w4.frozen? ⟨w.heap.size + 1, 1, none⟩ = false := by simp [World.frozen?, hby4]
  have t2 : w4.frozen? ⟨w.heap.size + 1, 2, none⟩ = false := by simp [World.frozen?, hby4]
  have hbel4 := below_trans hbel3 hb4
  have HO := Lib.hid (hst3.call hb4)
  clear p0 p1 p2 hb4 hst3
  go_wp2_with fail
  (try simp only [Exit.inBlock, Exit.then])
  refine bodyPost_ret (results_cell_row_tmp rfl _ _ (w.heap.size + 1) 48 #[.slice (some ⟨G, 0, none⟩) 4 c1, .string (gain text wordS [(p : Int), q, m]), .int .i64 ((many : Int) + 1)] (0, 0) _ rfl (box_store3 hby4) Tryz.underlying48 rfl (by kernel_rfl)) rfl ⟨⟨_, _, rfl, ?_, hc1⟩, box_below3 hbel4 (by omega)⟩
  have hfin := (((((HO.out.storeLow (g := w.heap.size + 1) (by omega) 0 (.slice (some ⟨G, 0, none⟩) 4 c1)).storeLow (g := w.heap.size + 1) (by omega) 1 (.string (gain text wordS [(p : Int), q, m]))).storeLow (g := w.heap.size + 1) (by omega) 2 (.int .i64 ((many : Int) + 1))).mono (B := w.heap.size) (by omega)).rows)
  exact hfin
end Go.Proofs.YtokneabcgmjhdaaGreatDoor
