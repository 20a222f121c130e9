/- Contract of the reference's Copy. -/
import Derived.Test.YtokneabcgmjhdaaGreatDoorBase
import Derived.Deep.LoopGhost
namespace Go.Proofs.YtokneabcgmjhdaaGreatDoor
open Go.RowKit
set_option linter.unusedVariables false
set_option linter.unusedSimpArgs false

set_option maxHeartbeats 1000000 in
theorem RCopy_any (a : Option Addr) (n cap : Nat) (rows : List (List Int)) (w : World) (hr : RowsAt w a n rows) (hn2 : n ≤ 1000) (hcap : n ≤ cap) (hw : ∀ k, k < n → (rows.getD k []).length ≤ 1000000) :
    Calls Tryz.prog 52 #[.slice a n cap] w fun e w' => (∃ v, e = .returned v ∧ OwnRows w' w.heap.size v rows) ∧ Below w.heap.size w w' := by
  obtain ⟨ii, hi, hz0, hz1, hz2⟩ := info_parts info_int
  obtain ⟨ji, hj, hy0, hy1, hy2⟩ := info_parts info_ints
  obtain ⟨B, hB⟩ : ∃ B, B = w.heap.size := ⟨_, rfl⟩
  rw [← hB]
  have HB := Lib.hid hB
  have HR := Lib.hid hr
  have HW := Lib.hid hw
  clear hB hr hw
  go_enter Tryz.func52, Tryz.ntmps52
  go_wp2_with fail
  go_loopg [3, 4] (n + 1) (fun g v i wr => ∃ k : Nat, k ≤ n ∧ n - k < g ∧ i = .int .i64 k ∧ OwnRows wr B v (rows.take k) ∧ Below B w wr ∧ B ≤ wr.heap.size)
  case atStart => exact ⟨0, by omega, by omega, rfl, by simpa using OwnRows.nil w B, Below.refl _ _, by rw [HB.out]; exact Nat.le_refl _⟩
  case round =>
    obtain ⟨k, hk, hg, rfl, hown, hbel, hsz⟩ := hrel
    have hrr := HR.out.call (w' := wr) (by rw [← HB.out]; exact hbel)
    have HRR := Lib.hid hrr
    clear hrr
    by_cases hlt : k < n
    · obtain ⟨vs, hvs⟩ := hown.vals
      have hvl : vs.length = k := by rw [hvs.2.1, List.length_take, HR.out.1]; omega
      have HVS := Lib.hid hvs
      clear hvs hown
      obtain ⟨b, off, ra, rc, rfl, hc, e1, e2, e3, e4⟩ := HRR.out.2 k hlt
      have hwk := HW.out k hlt
      obtain ⟨row, hrow⟩ : ∃ r, r = rows.getD k [] := ⟨_, rfl⟩
      rw [← hrow] at hc e1 e4 hwk
      obtain ⟨M, hM⟩ : ∃ M, M = row.length := ⟨_, rfl⟩
      rw [← hM] at hc e1 e4 hwk
      have HRW := Lib.hid hrow
      have hMl : (row.map (Value.int .i64)).length = M := by rw [List.length_map, hM]
      have HM := Lib.hid hMl
      have HM2 := Lib.hid hM
      have E3 := Lib.hid e3
      have E4 := Lib.hid (cells_of_ints e4)
      clear hrow hM hMl e3 e4
      go_wp2_with (first
        | (at_builtin; refine wpList_append_own1 (o := ⟨some 17, _, _, _, _, _⟩) rfl _ _ 62 rfl wr.heap.size 3 ii (.int .i64 0) 8 Tryz.underlying62 hi hz0 hz1 hz2 rfl _ 0 [] rfl (World.ownsRow_nil _ _ _ _) _ M _ (row.map (Value.int .i64)) rfl HM.out E3.out (fun j u h => E4.out j u h) (ints_oneCell _ _) (by unfold maxLen; omega) (by omega) (Nat.le_refl _) ?_; intro v1 w1 hown1 hgrow1; obtain ⟨ra2, ln2, rc2, rfl⟩ := OwnInts.isSlice hown1)
        | (at_builtin; refine wpList_append_own1 (o := ⟨some 21, _, _, _, _, _⟩) rfl _ _ 46 rfl B 62 ji (.slice none 0 0) 24 Tryz.underlying46 hj hy0 hy1 hy2 rfl _ vs.length vs rfl ((HVS.out.1.call (fresh1 hgrow1)).alloc _) (some ⟨w1.heap.size, 0, none⟩) 1 1 [.slice ra2 ln2 rc2] rfl rfl (fun h => by cases h) (one_new _ _ _) (one_slice _ _ _) (by unfold maxLen; omega) (by omega) (le_alloc (Nat.le_trans hsz (fresh1 hgrow1).size) _) ?_; intro v3 w3 hown3 hgrow3))
      have hbf := fresh1 hgrow1
      have hoi : OwnInts w1 wr.heap.size (.slice ra2 ln2 rc2) row := by
        unfold OwnInts
        rw [← HM2.out]
        simpa using hown1
      have hsn := OwnRowsV.snoc HVS.out hsz hbf hoi hown3 hgrow3
      rw [HRW.out, ← take_snoc_rows rows k (by rw [HR.out.1]; exact hlt)] at hsn
      have hbel3 : Below B w w3 := hbel.trans ((hbf.mono hsz).trans (((Below.refl B _).alloc (Nat.le_trans hsz hbf.size) _).trans (grown_below hgrow3 (le_alloc (Nat.le_trans hsz hbf.size) _) (fun k hk => (World.ownsRow.lt HVS.out.1 k hk).1))))
      go_roundg (n - k)
      case measure => omega
      case rel => exact ⟨k + 1, by omega, by omega, by go_num, hsn, hbel3, by have := hbel3.size; rw [HB.out] at *; exact this⟩
    · have hfin : rows.take k = rows := by rw [List.take_of_length_le (by rw [HR.out.1]; omega)]
      rw [hfin] at hown
      have HOW := Lib.hid hown
      clear hown hfin
      go_wp2_with fail
      go_ret
      exact ⟨⟨_, rfl, HOW.out⟩, hbel⟩
end Go.Proofs.YtokneabcgmjhdaaGreatDoor
