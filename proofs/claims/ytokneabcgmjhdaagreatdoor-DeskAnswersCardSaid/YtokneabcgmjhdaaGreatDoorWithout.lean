/- Contract of the reference's Without. -/
import Derived.Test.YtokneabcgmjhdaaGreatDoorBase
import Derived.Deep.LoopGhost
namespace Go.Proofs.YtokneabcgmjhdaaGreatDoor
open Go.RowKit
set_option linter.unusedVariables false
set_option linter.unusedSimpArgs false

set_option maxHeartbeats 1000000 in
theorem Without_any (a : Option Addr) (n m cap : Nat) (rows : List (List Int)) (cr cc : Int) (w : World) (hr : RowsAt w a n rows) (hn2 : n ≤ 1000) (hm : m ≤ 1000) (hcap : n ≤ cap) (hw : ∀ k, k < n → (rows.getD k []).length = m) (h0 : 0 ≤ cr) (h1 : 0 ≤ cc) :
    Calls Tryz.prog 55 #[.slice a n cap, .int .i64 cr, .int .i64 cc] w fun e w' => (∃ v, e = .returned v ∧ OwnRows w' w.heap.size v (cut rows cr.toNat cc.toNat)) ∧ Below w.heap.size w w' := by
  obtain ⟨ii, hi, hz0, hz1, hz2⟩ := info_parts info_int
  obtain ⟨ji, hj, hy0, hy1, hy2⟩ := info_parts info_ints
  obtain ⟨B, hB⟩ : ∃ B, B = w.heap.size := ⟨_, rfl⟩
  rw [← hB]
  have HB := Lib.hid hB
  have HR := Lib.hid hr
  have HW := Lib.hid hw
  clear hB hr hw
  go_enter Tryz.func55, Tryz.ntmps55
  go_wp2_with fail
  go_loopg [7, 8] (n + 1) (fun g v i wr => ∃ k : Nat, k ≤ n ∧ n - k < g ∧ i = .int .i64 k ∧ OwnRows wr B v (cutTo rows cr.toNat cc.toNat k) ∧ Below B w wr ∧ B ≤ wr.heap.size)
  case atStart => exact ⟨0, by omega, by omega, rfl, by simpa [cutTo] using OwnRows.nil w B, Below.refl _ _, by rw [HB.out]; exact Nat.le_refl _⟩
  case round =>
    obtain ⟨k, hk, hg, rfl, hown, hbel, hsz⟩ := hrel
    have hrr := HR.out.call (w' := wr) (by rw [← HB.out]; exact hbel)
    have HRR := Lib.hid hrr
    clear hrr
    obtain ⟨wo, rfl⟩ : ∃ wo : World, wo = wr := ⟨_, rfl⟩
    by_cases hlt : k < n
    · by_cases hkr : (k : Int) = cr
      · have hkb : ((k : Int) == cr) = true := by simp [hkr]
        have HKR := Lib.hid hkr
        have HOW := Lib.hid hown
        clear hkr hown
        go_wp2_with fail
        go_roundg (n - k)
        case measure => omega
        case rel => exact ⟨k + 1, by omega, by omega, by go_num, by rw [cutTo_hit rows _ _ k (by rw [HR.out.1]; exact hlt) (by have := HKR.out; omega)]; exact HOW.out, hbel, hsz⟩
      · have hkb : ((k : Int) == cr) = false := by simp [hkr]
        have HKR := Lib.hid hkr
        obtain ⟨vs, hvs⟩ := hown.vals
        have hvl : vs.length ≤ k := by
          rw [hvs.2.1]
          unfold cutTo
          rw [List.length_map]
          refine Nat.le_trans (List.length_eraseIdx_le _ _) ?_
          exact List.length_take_le _ _
        have HVS := Lib.hid hvs
        clear hvs hown hkr
        obtain ⟨row, hrow⟩ : ∃ r, r = rows.getD k [] := ⟨_, rfl⟩
        have hrl : row.length = m := by rw [hrow]; exact HW.out k hlt
        have HRL := Lib.hid hrl
        have HRW := Lib.hid hrow
        obtain ⟨b, off, ra, rc, rfl, hc, e1, e2, e3, e4⟩ := HRR.out.2 k hlt
        rw [← hrow, hrl] at hc e1 e4
        have hbwo : b < wo.heap.size := World.block_lt_of_cell? _ _ hc
        have E4 := Lib.hid e4
        have HC := Lib.hid hc
        clear hrl hrow e4 hc e3
        go_wp2_with fail
        go_loopg [9, 10] (m + 1) (fun g v i wr => ∃ l : Nat, l ≤ m ∧ m - l < g ∧ i = .int .i64 l ∧ OwnInts wr wo.heap.size v ((row.take l).eraseIdx cc.toNat) ∧ Below wo.heap.size wo wr)
        case atStart => exact ⟨0, by omega, by omega, rfl, by simpa using OwnInts.nil wo _, Below.refl _ _⟩
        case round =>
          obtain ⟨l, hl, hg2, rfl, hown, hbel2⟩ := hrel
          have hc' : wr.cell? ⟨b, off + k, none⟩ = some (.slice ra m rc) := by rw [hbel2.cell (p := ⟨b, off + k, none⟩) hbwo]; exact HC.out
          have HOW := Lib.hid hown
          have hlen : ((row.take l).eraseIdx cc.toNat).length ≤ l := Nat.le_trans (List.length_eraseIdx_le _ _) (List.length_take_le _ _)
          clear hown
          by_cases hlt2 : l < m
          · obtain ⟨b2, off2, rfl, hx⟩ := (E4.out.call hbel2).2 l hlt2
            obtain ⟨x, hxx⟩ : ∃ x, x = row.getD l 0 := ⟨_, rfl⟩
            rw [← hxx] at hx
            have HX := Lib.hid hxx
            clear hxx
            by_cases hlc : (l : Int) = cc
            · have hlb : ((l : Int) != cc) = false := by simp [hlc]
              have HLC := Lib.hid hlc
              clear hlc
              go_wp2_with fail
              go_roundg (m - l)
              case measure => omega
              case rel => exact ⟨l + 1, by omega, by omega, by go_num, by rw [eraseTo_hit row _ l (by rw [HRL.out]; exact hlt2) (by have := HLC.out; omega)]; exact HOW.out, hbel2⟩
            · have hlb : ((l : Int) != cc) = true := by simp [hlc]
              have HLC := Lib.hid hlc
              clear hlc
              go_wp2_with (at_builtin; refine wpList_append_own1 (o := ⟨some 41, _, _, _, _, _⟩) rfl _ _ 62 rfl wo.heap.size 3 ii (.int .i64 0) 8 Tryz.underlying62 hi hz0 hz1 hz2 rfl _ ((row.take l).eraseIdx cc.toNat).length (((row.take l).eraseIdx cc.toNat).map (Value.int .i64)) rfl (World.ownsRow.alloc HOW.out _) (some ⟨wr.heap.size, 0, none⟩) 1 1 [.int .i64 x] rfl rfl (fun h => by cases h) (one_new _ _ _) (one_int _ _) (by unfold maxLen; omega) (by omega) (le_alloc hbel2.size _) ?_; intro v2 w2 hown2 hgrow2)
              have hs2 := OwnInts.snoc rfl hown2
              rw [HX.out, ← eraseTo_miss row _ l (by rw [HRL.out]; exact hlt2) (by intro h; exact HLC.out (by have := HLC.out; omega))] at hs2
              have hb2 := own_grow hbel2 HOW.out hgrow2
              go_roundg (m - l)
              case measure => omega
              case rel => exact ⟨l + 1, by omega, by omega, by go_num, hs2, hb2⟩
          · obtain rfl : l = m := by omega
            obtain ⟨ra2, ln2, rc2, rfl⟩ := OwnInts.isSlice HOW.out
            go_wp2_with (at_builtin; refine wpList_append_own1 (o := ⟨some 45, _, _, _, _, _⟩) rfl _ _ 46 rfl B 62 ji (.slice none 0 0) 24 Tryz.underlying46 hj hy0 hy1 hy2 rfl _ vs.length vs rfl ((HVS.out.1.call hbel2).alloc _) (some ⟨wr.heap.size, 0, none⟩) 1 1 [.slice ra2 ln2 rc2] rfl rfl (fun h => by cases h) (one_new _ _ _) (one_slice _ _ _) (by unfold maxLen; omega) (by omega) (le_alloc (Nat.le_trans hsz hbel2.size) _) ?_; intro v3 w3 hown3 hgrow3)
            have hsn := OwnRowsV.snoc HVS.out hsz hbel2 HOW.out hown3 hgrow3
            rw [List.take_of_length_le (by rw [HRL.out]; exact Nat.le_refl _), HRW.out, ← cutTo_miss rows _ _ k (by rw [HR.out.1]; exact hlt) (by intro h; have := HKR.out; omega)] at hsn
            have hbel3 : Below B w w3 := hbel.trans ((hbel2.mono hsz).trans (((Below.refl B _).alloc (Nat.le_trans hsz hbel2.size) _).trans (grown_below hgrow3 (le_alloc (Nat.le_trans hsz hbel2.size) _) (fun k hk => (World.ownsRow.lt HVS.out.1 k hk).1))))
            go_roundg (n - k)
            case measure => omega
            case rel => exact ⟨k + 1, by omega, by omega, by go_num, hsn, hbel3, by have := hbel3.size; rw [HB.out] at *; exact this⟩
    · have hfin : cutTo rows cr.toNat cc.toNat k = cut rows cr.toNat cc.toNat := by unfold cutTo cut; rw [List.take_of_length_le (by rw [HR.out.1]; omega)]
      rw [hfin] at hown
      have HOW := Lib.hid hown
      clear hown hfin
      go_wp2_with fail
      go_ret
      exact ⟨⟨_, rfl, HOW.out⟩, hbel⟩
end Go.Proofs.YtokneabcgmjhdaaGreatDoor
