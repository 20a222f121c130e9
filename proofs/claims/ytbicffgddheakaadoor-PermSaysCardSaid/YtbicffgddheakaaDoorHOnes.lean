/- Contract of the reference's Ones. -/
import Derived.Test.YtbicffgddheakaaDoorOwnInt
import Derived.Test.YtbicffgddheakaaDoorDetMath
import Derived.Test.YtbicffgddheakaaDoorAlg
import Derived.Deep.LoopGhost
namespace Go.Proofs.YtbicffgddheakaaDoor
open Go.RowKit
set_option linter.unusedVariables false
set_option linter.unusedSimpArgs false

/-- row i of the marks, j columns being over -/
def onesTo (rows : List (List Int)) (n i j : Nat) : List Int := (List.range n).map fun c => if c < j ∧ fn rows i c ≠ 0 then 1 else 0
def onesRows (rows : List (List Int)) (n k : Nat) : List (List Int) := (List.range k).map fun i => onesTo rows n i n
theorem onesTo_len (rows : List (List Int)) (n i j : Nat) : (onesTo rows n i j).length = n := by simp [onesTo]
theorem onesTo_zero (rows : List (List Int)) (n i : Nat) : onesTo rows n i 0 = List.replicate n 0 := by
  refine List.ext_getElem (by simp [onesTo]) fun c h1 h2 => ?_
  simp [onesTo]
theorem onesTo_skip (rows : List (List Int)) (n i j : Nat) (h : fn rows i j = 0) : onesTo rows n i (j + 1) = onesTo rows n i j := by
  unfold onesTo
  refine List.map_congr_left fun c _ => ?_
  by_cases hc : c = j
  · subst hc; simp [h]
  · have : (c < j + 1) = (c < j) := by apply propext; omega
    simp only [this]
theorem onesTo_set (rows : List (List Int)) (n i j : Nat) (h : fn rows i j ≠ 0) : (onesTo rows n i j).set j 1 = onesTo rows n i (j + 1) := by
  refine List.ext_getElem (by simp [onesTo]) fun c h1 h2 => ?_
  rw [List.getElem_set]
  by_cases hc : j = c
  · subst hc; simp [onesTo, h]
  · rw [if_neg hc]
    have : (c < j + 1) = (c < j) := by apply propext; omega
    simp only [onesTo, List.getElem_map, List.getElem_range, this]
theorem onesRows_succ (rows : List (List Int)) (n k : Nat) : onesRows rows n (k + 1) = onesRows rows n k ++ [onesTo rows n k n] := by simp [onesRows, List.range_succ]
theorem onesRows_len (rows : List (List Int)) (n k : Nat) : (onesRows rows n k).length = k := by simp [onesRows]
theorem onesRows_sq (rows : List (List Int)) (n : Nat) : Sq n (onesRows rows n n) := ⟨onesRows_len rows n n, fun i hi => by simp [onesRows, List.getD, hi, onesTo]⟩
theorem onesRows_fn (rows : List (List Int)) (n : Nat) {i j : Nat} (hi : i < n) (hj : j < n) : fn (onesRows rows n n) i j = if fn rows i j = 0 then 0 else 1 := by
  unfold fn
  simp [onesRows, onesTo, List.getD, hi, hj, fn]
  by_cases h : (rows[i]?.getD [])[j]?.getD 0 = 0 <;> simp [h]

set_option maxRecDepth 100000 in
set_option maxHeartbeats 1000000 in
theorem HOnes_any (a : Option Addr) (n cap : Nat) (rows : List (List Int)) (w : World) (hr : RowsAt w a n rows) (hn : 0 < n) (hn2 : n ≤ 1000) (hs : Sq n rows) :
    Calls Tryd.prog 8 #[.slice a n cap] w fun e w' => (∃ v, e = .returned v ∧ OwnRows w' w.heap.size v (onesRows rows n n)) ∧ Below w.heap.size w w' := by
  obtain ⟨ii, hi, hz0, hz1, hz2⟩ := info_parts info_int
  obtain ⟨ji, hj, hy0, hy1, hy2⟩ := info_parts info_ints
  obtain ⟨B, hB⟩ : ∃ B, B = w.heap.size := ⟨_, rfl⟩
  rw [← hB]
  obtain ⟨b, off, rfl, hb⟩ := hr.some hn
  have HB := Lib.hid hB
  have HR := Lib.hid hr
  have HS := Lib.hid hs
  clear hB hr hs
  go_enter Tryd.func8, Tryd.ntmps8
  go_wp2_with fail
  go_loopg [3, 4] (n + 1) (fun g v i wr => ∃ k : Nat, k ≤ n ∧ n - k < g ∧ i = .int .i64 k ∧ OwnRows wr B v (onesRows rows n k) ∧ Below B w wr ∧ B ≤ wr.heap.size)
  case atStart => exact ⟨0, by omega, by omega, rfl, by simpa [onesRows] using OwnRows.nil w B, Below.refl _ _, by rw [HB.out]; exact Nat.le_refl _⟩
  case round =>
    obtain ⟨k, hk, hg, rfl, hown, hbel, hsz⟩ := hrel
    obtain ⟨wo, rfl⟩ : ∃ wo : World, wo = wr := ⟨_, rfl⟩
    by_cases hlt : k < n
    · obtain ⟨vs, hvs⟩ := hown.vals
      have hvl : vs.length = k := by rw [hvs.2.1, onesRows_len]
      have HVS := Lib.hid hvs
      have hrr := HR.out.call (w' := wo) (by rw [← HB.out]; exact hbel)
      have HRR := Lib.hid hrr
      obtain ⟨ra, rc, hc0, hrc, hrm, _, hrow⟩ := hrr.row (i := k) hlt
      rw [HS.out.2 k hlt] at hc0 hrc hrow
      obtain ⟨b0, off0, rfl, hb0, hcells⟩ := hrow.some (by omega)
      have HC0 := Lib.hid hc0
      have HCE := Lib.hid hcells
      have hki : (k : Int) < n := by omega
      clear hvs hown hrr hrow hcells
      go_wp2_with (at_make; refine wpList_make_full _ rfl _ _ 33 rfl wo.heap.size 3 ii (.int .i64 0) 1 Tryd.underlying33 hi hz0 hz1 _ _ _ _ n rfl rfl rfl rfl (by rw [hz2]; omega) (by unfold maxLen; omega) (Nat.le_refl _) ?_; intro w2 hown2 hgrow2)
      have hf1 := fresh1 hgrow2
      have hm2 := ints_made hown2
      rw [← onesTo_zero rows n k] at hm2
      have hg2 : wo.heap.size < w2.heap.size := (hm2.lt _ rfl).2
      obtain ⟨G, hG⟩ : ∃ G, G = wo.heap.size := ⟨_, rfl⟩
      rw [← hG] at hm2 hg2 ⊢
      have HG := Lib.hid hG
      have HM2 := Lib.hid hm2
      clear hown2 hgrow2 hm2 hG
      go_loopg [6] (n + 1) (fun g i wr => ∃ l : Nat, l ≤ n ∧ n - l < g ∧ i = .int .i64 l ∧ OwnInts wr G (.slice (some ⟨G, 0, none⟩) n n) (onesTo rows n k l) ∧ Below G wo wr)
      case atStart => exact ⟨0, by omega, by omega, rfl, HM2.out, by rw [HG.out]; exact hf1⟩
      case round =>
        obtain ⟨l, hl, hg, rfl, hown, hbel2⟩ := hrel
        by_cases hlt2 : l < n
        · obtain ⟨x, hx⟩ : ∃ x, x = (rows.getD k []).getD l 0 := ⟨_, rfl⟩
          obtain ⟨hnl, hput⟩ := hown.put
          obtain ⟨hp1, hp2, hp3⟩ := hput l hlt2
          have hc1 : wr.cell? ⟨b, off + k, none⟩ = some (.slice (some ⟨b0, off0, none⟩) n rc) := by rw [hbel2.cell (p := ⟨b, off + k, none⟩) (by show b < G; have := HB.out; have := HG.out; omega)]; exact HC0.out
          have hc2 : wr.cell? ⟨b0, off0 + l, none⟩ = some (.int .i64 x) := by rw [hbel2.cell (p := ⟨b0, off0 + l, none⟩) (by show b0 < G; rw [HG.out]; exact hb0), hx]; exact HCE.out l hlt2
          have HOW := Lib.hid hown
          have HP := Lib.hid (hp3 1)
          have HX := Lib.hid (show x = fn rows k l from hx)
          have hl1 : (l : Int) < n := by omega
          clear hown hput hp3 hx hnl
          by_cases hx0 : x = 0
          · have HZ := Lib.hid (onesTo_skip rows n k l (by rw [← HX.out]; exact hx0))
            have hxb : (x != 0) = false := by simp [hx0]
            clear hx0
            go_wp2_with fail
            go_roundg (n - l)
            case measure => omega
            case rel => exact ⟨l + 1, by omega, by omega, by go_num, by rw [HZ.out]; exact HOW.out, hbel2⟩
          · have HZ := Lib.hid (onesTo_set rows n k l (by rw [← HX.out]; exact hx0))
            have hxb : (x != 0) = true := by simp [hx0]
            clear hx0
            go_wp2_with fail
            go_roundg (n - l)
            case measure => omega
            case rel => exact ⟨l + 1, by omega, by omega, by go_num, by rw [← HZ.out]; exact HP.out, hbel2.setCell (p := ⟨G, l, none⟩) (Nat.le_refl _) _⟩
        · obtain rfl : l = n := by omega
          have HOW := Lib.hid hown
          clear hown
          have hbel2' : Below wo.heap.size wo wr := by rw [← HG.out]; exact hbel2
          have HB2 := Lib.hid hbel2'
          have hszn := hbel2'.size
          clear hbel2 hbel2'
          go_wp2_with (at_builtin; refine wpList_append_own1 (o := ⟨some 36, _, _, _, _, _⟩) rfl _ _ 22 rfl B 33 ji (.slice none 0 0) 24 Tryd.underlying22 hj hy0 hy1 hy2 rfl _ vs.length vs rfl ((HVS.out.1.call HB2.out).alloc _) (some ⟨wr.heap.size, 0, none⟩) 1 1 [.slice (some ⟨G, 0, none⟩) l l] rfl rfl (fun h => by cases h) (one_new _ _ _) (one_slice _ _ _) (by unfold maxLen; omega) (by omega) (le_alloc (Nat.le_trans hsz hszn) _) ?_; intro v3 w3 hown3 hgrow3)
          have hsn := OwnRowsV.snoc HVS.out hsz HB2.out (by rw [← HG.out]; exact HOW.out) hown3 hgrow3
          rw [← onesRows_succ] at hsn
          have hbel3 : Below B w w3 := hbel.trans ((HB2.out.mono hsz).trans (((Below.refl B _).alloc (Nat.le_trans hsz hszn) _).trans (grown_below hgrow3 (le_alloc (Nat.le_trans hsz hszn) _) (fun k hk => (World.ownsRow.lt HVS.out.1 k hk).1))))
          go_roundg (l - k)
          case measure => omega
          case rel => exact ⟨k + 1, by omega, by omega, by go_num, hsn, hbel3, by have := hbel3.size; rw [HB.out] at *; exact this⟩
    · obtain rfl : k = n := by omega
      have HOW := Lib.hid hown
      clear hown
      go_wp2_with fail
      go_ret
      exact ⟨⟨_, rfl, HOW.out⟩, hbel⟩
end Go.Proofs.YtbicffgddheakaaDoor
