/- Contract of the reference's Flip. -/
import Derived.Test.YtllomialkiaccaaDetMath
import Derived.Test.YtllomialkiaccaaMem
import Derived.Deep.LoopGhost
namespace Go.Proofs.Ytllomialkiaccaa
open Go.RowKit
set_option linter.unusedVariables false
set_option linter.unusedSimpArgs false

/-- column j of the first k rows -/
def colTo (rows : List (List Int)) (j k : Nat) : List Int := (List.range k).map fun i => (rows.getD i []).getD j 0
/-- the first k columns -/
def flipTo (rows : List (List Int)) (n k : Nat) : List (List Int) := (List.range k).map fun j => colTo rows j n
theorem colTo_succ (rows : List (List Int)) (j k : Nat) : colTo rows j (k + 1) = colTo rows j k ++ [(rows.getD k []).getD j 0] := by simp [colTo, List.range_succ]
theorem flipTo_succ (rows : List (List Int)) (n k : Nat) : flipTo rows n (k + 1) = flipTo rows n k ++ [colTo rows k n] := by simp [flipTo, List.range_succ]
theorem colTo_len (rows : List (List Int)) (j k : Nat) : (colTo rows j k).length = k := by simp [colTo]
theorem flipTo_len (rows : List (List Int)) (n k : Nat) : (flipTo rows n k).length = k := by simp [flipTo]

set_option maxHeartbeats 1000000 in
theorem Flip_any (a : Option Addr) (n m cap : Nat) (rows : List (List Int)) (w : World) (hr : RowsAt w a n rows) (hn : 0 < n) (hn2 : n ≤ 1000) (hm : m ≤ 1000) (hcap : n ≤ cap) (hw : ∀ k, k < n → (rows.getD k []).length = m) :
    Calls Try.prog 15 #[.slice a n cap] w fun e w' => (∃ v, e = .returned v ∧ OwnRows w' w.heap.size v (flipTo rows n m)) ∧ Below w.heap.size w w' := by
  obtain ⟨b, off, rfl, hb⟩ := hr.some hn
  obtain ⟨ii, hi, hz0, hz1, hz2⟩ := info_parts info_int
  obtain ⟨ji, hj, hy0, hy1, hy2⟩ := info_parts info_ints
  obtain ⟨B, hB⟩ : ∃ B, B = w.heap.size := ⟨_, rfl⟩
  rw [← hB]
  have HB := Lib.hid hB
  have HR := Lib.hid hr
  have HW := Lib.hid hw
  clear hB hr hw
  go_enter Try.func15, Try.ntmps15
  go_wp2_with fail
  go_loopg [3, 4] (m + 1) (fun g v i wr => ∃ k : Nat, k ≤ m ∧ m - k < g ∧ i = .int .i64 k ∧ OwnRows wr B v (flipTo rows n k) ∧ Below B w wr ∧ B ≤ wr.heap.size)
  case atStart => exact ⟨0, by omega, by omega, rfl, by simpa [flipTo] using OwnRows.nil w B, Below.refl _ _, by rw [HB.out]; exact Nat.le_refl _⟩
  case round =>
    obtain ⟨k, hk, hg, rfl, hown, hbel, hsz⟩ := hrel
    have hrr := HR.out.call (w' := wr) (by rw [← HB.out]; exact hbel)
    obtain ⟨ra0, rc0, hc0, h01, h02, h03, h04⟩ := hrr.row (i := 0) hn
    rw [HW.out 0 hn] at hc0
    have hc0' := hc0
    rw [Nat.add_zero] at hc0
    have HRR := Lib.hid hrr
    clear hrr h01 h02 h03 h04 hc0'
    obtain ⟨wo, rfl⟩ : ∃ wo : World, wo = wr := ⟨_, rfl⟩
    by_cases hlt : k < m
    · obtain ⟨vs, hvs⟩ := hown.vals
      have hvl : vs.length = k := by rw [hvs.2.1, flipTo_len]
      have HVS := Lib.hid hvs
      clear hvs hown
      go_wp2_with fail
      go_loopg [5, 6] (n + 1) (fun g v i wr => ∃ l : Nat, l ≤ n ∧ n - l < g ∧ i = .int .i64 l ∧ OwnInts wr wo.heap.size v (colTo rows k l) ∧ Below wo.heap.size wo wr)
      case atStart => exact ⟨0, by omega, by omega, rfl, by simpa [colTo] using OwnInts.nil wo _, Below.refl _ _⟩
      case round =>
        obtain ⟨l, hl, hg2, rfl, hown, hbel2⟩ := hrel
        by_cases hlt2 : l < n
        · have hrr2 := HRR.out.call hbel2
          obtain ⟨b2, off2, rc2, hc1, hc2⟩ := hrr2.elem hlt2 (j := k) (by rw [HW.out l hlt2]; exact hlt)
          rw [HW.out l hlt2] at hc1
          obtain ⟨x, hx⟩ : ∃ x, x = (rows.getD l []).getD k 0 := ⟨_, rfl⟩
          rw [← hx] at hc2
          have HX := Lib.hid hx
          have HOW := Lib.hid hown
          have hlen := Lib.hid (colTo_len rows k l)
          clear hrr2 hx hown
          go_wp2_with (at_builtin; refine wpList_append_own1 (o := ⟨some 30, _, _, _, _, _⟩) rfl _ _ 24 rfl wo.heap.size 3 ii (.int .i64 0) 8 Try.underlying24 hi hz0 hz1 hz2 rfl _ (colTo rows k l).length ((colTo rows k l).map (Value.int .i64)) rfl (World.ownsRow.alloc HOW.out _) (some ⟨wr.heap.size, 0, none⟩) 1 1 [.int .i64 x] rfl rfl (fun h => by cases h) (one_new _ _ _) (one_int _ _) (by rw [hlen.out]; unfold maxLen; omega) (by rw [hlen.out]; omega) (le_alloc hbel2.size _) ?_; intro v2 w2 hown2 hgrow2)
          have hs2 := OwnInts.snoc rfl hown2
          rw [HX.out, ← colTo_succ] at hs2
          have hb2 := own_grow hbel2 HOW.out hgrow2
          go_roundg (n - l)
          case measure => omega
          case rel => exact ⟨l + 1, by omega, by omega, by go_num, hs2, hb2⟩
        · obtain rfl : l = n := by omega
          have HOW := Lib.hid hown
          obtain ⟨ra2, ln2, rc2, rfl⟩ := OwnInts.isSlice hown
          clear hown
          go_wp2_with (at_builtin; refine wpList_append_own1 (o := ⟨some 34, _, _, _, _, _⟩) rfl _ _ 22 rfl B 24 ji (.slice none 0 0) 24 Try.underlying22 hj hy0 hy1 hy2 rfl _ vs.length vs rfl ((HVS.out.1.call hbel2).alloc _) (some ⟨wr.heap.size, 0, none⟩) 1 1 [.slice ra2 ln2 rc2] rfl rfl (fun h => by cases h) (one_new _ _ _) (one_slice _ _ _) (by unfold maxLen; omega) (by omega) (le_alloc (Nat.le_trans hsz hbel2.size) _) ?_; intro v3 w3 hown3 hgrow3)
          have hsn := OwnRowsV.snoc HVS.out hsz hbel2 HOW.out hown3 hgrow3
          rw [← flipTo_succ] at hsn
          have hbel3 : Below B w w3 := hbel.trans ((hbel2.mono hsz).trans (((Below.refl B _).alloc (Nat.le_trans hsz hbel2.size) _).trans (grown_below hgrow3 (le_alloc (Nat.le_trans hsz hbel2.size) _) (fun k hk => (World.ownsRow.lt HVS.out.1 k hk).1))))
          go_roundg (m - k)
          case measure => omega
          case rel => exact ⟨k + 1, by omega, by omega, by go_num, hsn, hbel3, by have := hbel3.size; rw [HB.out] at *; exact this⟩
    · obtain rfl : k = m := by omega
      have HOW := Lib.hid hown
      clear hown
      go_wp2_with fail
      go_ret
      exact ⟨⟨_, rfl, HOW.out⟩, hbel⟩
end Go.Proofs.Ytllomialkiaccaa
