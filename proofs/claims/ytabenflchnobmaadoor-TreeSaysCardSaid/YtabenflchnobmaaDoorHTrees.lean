/- Contracts of the reference's trees, Trees, Pairs and Between. -/
import Derived.Test.YtabenflchnobmaaDoorHTrMath
import Derived.Test.YtabenflchnobmaaDoorMem
import Derived.Test.YtabenflchnobmaaDoorRMatrix
import Derived.Deep.LoopGhost
import Derived.BigQuiet
import Derived.Deep.QuietTactic
namespace Go.Proofs.YtabenflchnobmaaDoor
open Go.RowKit
set_option linter.unusedVariables false
set_option linter.unusedSimpArgs false

theorem trU_bd15 (es : List (List Int)) (w : List Int) (left : Nat) (h : es.length ≤ 15) : trU es w left ≤ 32768 := by
  have h1 := trU_bd es w left
  have h2 : 2 ^ es.length ≤ 2 ^ 15 := Nat.pow_le_pow_right (by decide) h
  have h3 : ((2 ^ es.length : Nat) : Int) = (2 : Int) ^ es.length := by simp
  have h4 : (2 : Nat) ^ 15 = 32768 := by decide
  omega
theorem ints_snoc_take (l : List Int) (k : Nat) (hk : k < l.length) : l.take (k + 1) = l.take k ++ [l.getD k 0] := by
  rw [List.take_succ_eq_append_getElem hk]
  simp [List.getD, hk]
theorem below_dN (w : World) (n : Nat) : Below w.heap.size w (w.drewN n) := ⟨rfl, rfl, rfl, Nat.le_refl _, fun _ _ => rfl⟩

set_option maxHeartbeats 4000000 in
theorem Htrees_any (n : Nat) (hn : n ≤ 6) (a : Option Addr) (m cap : Nat) (ps : List (List Int)) (hm : m ≤ 15) (hg : ∀ p ∈ ps, GoodP n p) (left : Nat) :
    ∀ (k : Nat) (aw : Option Addr) (cw : Nat) (lab : List Int) (w : World), left ≤ 6 → k ≤ m → RowsAt w a m ps → IntsAt w aw n lab → (aw = none → cw = 0) →
      Calls Tryd.prog 17 #[.slice a m cap, .int .i64 k, .slice aw n cw, .int .i64 left] w fun e w' => e = .returned (.int .i64 (trU (ps.drop k) lab left)) ∧ Below w.heap.size w w' := by
  induction left with
  | zero =>
    intro k aw cw lab w hl hk hr hi hcw
    rw [trU_zero]
    have hz : (((0 : Nat) : Int) == 0) = true := by decide
    clear hr hi hcw hg
    go_enter Tryd.func17, Tryd.ntmps17
    go_wp2_with fail
    go_ret
    exact ⟨rfl, Below.refl _ _⟩
  | succ left ih =>
    intro k aw cw lab w hl hk hr hi hcw
    obtain ⟨ii, hii, hz0, hz1, hz2⟩ := info_parts info_int
    obtain ⟨T, hT⟩ : ∃ T, T = trU (ps.drop k) lab (left + 1) := ⟨_, rfl⟩
    have hTb : T ≤ 32768 := by rw [hT]; exact trU_bd15 _ _ _ (by rw [List.length_drop, hr.1]; omega)
    rw [← hT]
    have HT := Lib.hid hT
    have HR := Lib.hid hr
    have HI := Lib.hid hi
    have HPL := Lib.hid hr.1
    have HLL := Lib.hid hi.1
    have IH := Lib.hid ih
    have HG := Lib.hid hg
    have hz : ((left : Int) + 1 == 0) = false := by simp; omega
    clear hT hr hi ih hg hcw
    go_enter Tryd.func17, Tryd.ntmps17
    go_wp2_with fail
    go_loopg [9, 10] (m + 1) (fun g s i wr => ∃ (q : Nat) (x : Int), k ≤ q ∧ q ≤ m ∧ m - q < g ∧ s = .int .i64 x ∧ i = .int .i64 q ∧ 0 ≤ x ∧ x + trU (ps.drop q) lab (left + 1) = T ∧ Below w.heap.size w wr)
    case atStart => exact ⟨k, 0, by omega, by omega, by omega, rfl, rfl, by omega, by rw [HT.out]; omega, Below.refl _ _⟩
    case round =>
      obtain ⟨q, x, hq1, hq2, hgq, rfl, rfl, hx0, hxT, hbel⟩ := hrel
      have HXT := Lib.hid hxT
      have HBEL := Lib.hid hbel
      clear hxT hbel
      by_cases hlt : q + (left + 1) ≤ m
      · have hqm : q < m := by omega
        have hti : (q : Int) + ((left : Int) + 1) ≤ m := by omega
        have hqi : (q : Int) < m := by omega
        obtain ⟨hp0, hp1, hp2, hp3⟩ := (HG.out (ps.getD q []) (by
          have : q < ps.length := by rw [HPL.out]; exact hqm
          simp [List.getD, this])).pt
        obtain ⟨b, off, ra, rc, rfl, hc1, hl2, _, _, hrow⟩ := (HR.out.call HBEL.out).2 q hqm
        have htr := trU_at (ps := ps) (k := q) (left := left + 1) (by rw [HPL.out]; exact hqm) lab (by omega)
        obtain ⟨u, hu⟩ : ∃ u, u = ptA (ps.getD q []) := ⟨_, rfl⟩
        obtain ⟨v, hv⟩ : ∃ v, v = ptB (ps.getD q []) := ⟨_, rfl⟩
        rw [← hu, ← hv] at hp0 hp1
        rw [← hu] at hp2
        rw [← hv] at hp3
        rw [← hu, ← hv, Nat.add_sub_cancel] at htr
        rw [hp0] at hc1 hrow
        have hlen2 : ([(u : Int), (v : Int)] : List Int).length = 2 := rfl
        rw [hlen2] at hc1 hrow
        obtain ⟨b2, off2, rfl, hb2, hcs⟩ := hrow.some (by omega)
        have hcu := hcs 0 (by omega)
        have hcv := hcs 1 (by omega)
        have hcu' : wr.cell? ⟨b2, off2, none⟩ = some (.int .i64 u) := hcu
        have hcv' : wr.cell? ⟨b2, off2 + 1, none⟩ = some (.int .i64 v) := hcv
        have hu0 : (0 : Int) ≤ u := by omega
        have hv0 : (0 : Int) ≤ v := by omega
        obtain ⟨b3, off3, rfl, hb3, hls⟩ := (HI.out.call HBEL.out).some (by omega)
        have hla := hls u (by omega)
        have hlb := hls v (by omega)
        obtain ⟨p, hp⟩ : ∃ p, p = lab.getD u 0 := ⟨_, rfl⟩
        obtain ⟨r, hr⟩ : ∃ r, r = lab.getD v 0 := ⟨_, rfl⟩
        rw [← hp] at hla htr
        rw [← hr] at hlb htr
        have HTR := Lib.hid htr
        clear hp0 hlen2 hcu hcv hcs hrow hls htr hl2 hu hv hp hr
        by_cases hpr : p = r
        · have hpb : (p == r) = true := by simp [hpr]
          have HN := Lib.hid (show x + trU (ps.drop (q + 1)) lab (left + 1) = T by have := HXT.out; rw [HTR.out, if_pos hpr] at this; omega)
          clear hpr HTR HXT
          go_wp2_with fail
          go_roundg (m - q)
          case measure => omega
          case rel => exact ⟨q + 1, x, by omega, by omega, by omega, rfl, by go_num, hx0, HN.out, HBEL.out⟩
        · have hpb : (p == r) = false := by simp [hpr]
          obtain ⟨V, hV⟩ : ∃ V, V = trU (ps.drop (q + 1)) (mergeL lab p r) left := ⟨_, rfl⟩
          have hVn : 0 ≤ V := by rw [hV]; exact trU_nonneg _ _ _
          have hN : x + V + trU (ps.drop (q + 1)) lab (left + 1) = T := by have := HXT.out; rw [HTR.out, if_neg hpr, ← hV] at this; omega
          have hVb : x + V ≤ 32768 := by have := trU_nonneg (ps.drop (q + 1)) lab (left + 1); omega
          have HN := Lib.hid hN
          have HC := Lib.hid (show ∀ (a' : Option Addr) (c' : Nat) (W : World), RowsAt W (some ⟨b, off, none⟩) m ps → IntsAt W a' n (mergeL lab p r) → (a' = none → c' = 0) →
              Calls Tryd.prog 17 #[.slice (some ⟨b, off, none⟩) m cap, .int .i64 ((q : Int) + 1), .slice a' n c', .int .i64 left] W fun e w' => e = .returned (.int .i64 V) ∧ Below W.heap.size W w' from
            fun a' c' W h1 h2 h3 => by rw [hV]; exact IH.out (q + 1) a' c' (mergeL lab p r) W (by omega) (by omega) h1 h2 h3)
          have HML := Lib.hid (show (mergeL lab p r).length = n by rw [merge_len, HLL.out])
          clear hpr HTR HXT hV hN IH
          go_wp2_with fail
          obtain ⟨wo, rfl⟩ : ∃ wo : World, wo = wr := ⟨_, rfl⟩
          go_loopg [13, 14] (n + 1) (fun g y i wx => ∃ j : Nat, j ≤ n ∧ n - j < g ∧ i = .int .i64 j ∧ OwnInts wx wo.heap.size y ((mergeL lab p r).take j) ∧ Below wo.heap.size wo wx)
          case atStart => exact ⟨0, by omega, by omega, rfl, by rw [List.take_zero]; exact OwnInts.nil _ _, Below.refl _ _⟩
          case round =>
            obtain ⟨j, hj, hgj, rfl, hown, hbel⟩ := hrel
            have HOW := Lib.hid hown
            have HB := Lib.hid hbel
            have hsz := hbel.size
            clear hown hbel
            by_cases hjn : j < n
            · have hji : (j : Int) < n := by omega
              have hts := ints_snoc_take (mergeL lab p r) j (by rw [HML.out]; exact hjn)
              rw [merge_at _ _ (by rw [HLL.out]; exact hjn)] at hts
              obtain ⟨bb, oo, e, hcj⟩ := ((HI.out.call HBEL.out).call HB.out).2 j hjn
              obtain ⟨rfl, rfl⟩ : b3 = bb ∧ off3 = oo := by simpa using e
              obtain ⟨z, hz⟩ : ∃ z, z = lab.getD j 0 := ⟨_, rfl⟩
              rw [← hz] at hts hcj
              have HTK := Lib.hid (show ((mergeL lab p r).take j).length ≤ 6 by rw [List.length_take]; omega)
              clear e hz
              by_cases hzr : z = r
              · have hzb : (z == r) = true := by simp [hzr]
                rw [if_pos hzr] at hts
                have HTS := Lib.hid hts
                have htk6 := HTK.out
                clear hzr hts
                go_wp2_with (at_builtin; refine wpList_append_own1 (o := ⟨some 62, _, _, _, _, _⟩) rfl _ _ 28 rfl wo.heap.size 3 ii (.int .i64 0) 8 Tryd.underlying28 hii hz0 hz1 hz2 rfl _ ((mergeL lab p r).take j).length (((mergeL lab p r).take j).map (Value.int .i64)) rfl (World.ownsRow.alloc HOW.out _) (some ⟨wr.heap.size, 0, none⟩) 1 1 [.int .i64 p] rfl rfl (fun h => by cases h) (one_new _ _ _) (one_int _ _) (by unfold maxLen; omega) (by omega) (le_alloc hsz _) ?_; intro v5 w5 hown5 hgrow5)
                have ho5 : OwnInts w5 wo.heap.size v5 ((mergeL lab p r).take (j + 1)) := by rw [HTS.out]; exact OwnInts.snoc rfl hown5
                have hb5 : Below wo.heap.size wo w5 := own_grow HB.out HOW.out hgrow5
                clear hown5 hgrow5
                go_roundg (n - j)
                case measure => omega
                case rel => exact ⟨j + 1, by omega, by omega, by go_num, ho5, hb5⟩
              · have hzb : (z == r) = false := by simp [hzr]
                rw [if_neg hzr] at hts
                have HTS := Lib.hid hts
                have htk6 := HTK.out
                clear hzr hts
                go_wp2_with (at_builtin; refine wpList_append_own1 (o := ⟨some 69, _, _, _, _, _⟩) rfl _ _ 28 rfl wo.heap.size 3 ii (.int .i64 0) 8 Tryd.underlying28 hii hz0 hz1 hz2 rfl _ ((mergeL lab p r).take j).length (((mergeL lab p r).take j).map (Value.int .i64)) rfl (World.ownsRow.alloc HOW.out _) (some ⟨wr.heap.size, 0, none⟩) 1 1 [.int .i64 z] rfl rfl (fun h => by cases h) (one_new _ _ _) (one_int _ _) (by unfold maxLen; omega) (by omega) (le_alloc hsz _) ?_; intro v5 w5 hown5 hgrow5)
                have ho5 : OwnInts w5 wo.heap.size v5 ((mergeL lab p r).take (j + 1)) := by rw [HTS.out]; exact OwnInts.snoc rfl hown5
                have hb5 : Below wo.heap.size wo w5 := own_grow HB.out HOW.out hgrow5
                clear hown5 hgrow5
                go_roundg (n - j)
                case measure => omega
                case rel => exact ⟨j + 1, by omega, by omega, by go_num, ho5, hb5⟩
            · obtain rfl : j = n := by omega
              have hfull : (mergeL lab p r).take j = mergeL lab p r := List.take_of_length_le (by rw [HML.out]; omega)
              have how := HOW.out
              rw [hfull] at how
              obtain ⟨a5, c5, rfl, _, _, hn5, hi5⟩ := how.shape
              rw [HML.out] at hi5 ⊢
              have HI5 := Lib.hid hi5
              have HN5 := Lib.hid hn5
              have HBB := Lib.hid (below_trans HBEL.out HB.out)
              clear how hi5 hn5 hfull
              go_wp2_with (go_at_call 17; refine (HC.out _ _ _ (HR.out.call HBB.out) HI5.out HN5.out).mono ?_; rintro e w6 ⟨rfl, hb6⟩)
              have hb7 := below_trans HBB.out hb6
              clear hb6
              go_roundg (m - q)
              case measure => omega
              case rel => exact ⟨q + 1, x + V, by omega, by omega, by omega, rfl, by go_num, by omega, HN.out, hb7⟩
      · have hti : ¬ (q : Int) + ((left : Int) + 1) ≤ m := by omega
        have hxe : x = T := by
          have := HXT.out
          rw [trU_short _ _ _ (by rw [List.length_drop, HPL.out]; omega)] at this
          omega
        have HXE := Lib.hid hxe
        clear hxe
        go_wp2_with fail
        go_ret
        exact ⟨ret_int HXE.out, HBEL.out⟩

set_option maxHeartbeats 1000000 in
theorem HTrees_any (n : Nat) (h1 : 1 ≤ n) (hn : n ≤ 6) (a : Option Addr) (m cap : Nat) (ps : List (List Int)) (w : World) (hr : RowsAt w a m ps) (he : treeErr n ps = 0) :
    Calls Tryd.prog 7 #[.int .i64 n, .slice a m cap] w fun e w' => e = .returned (.int .i64 (treesV n ps)) ∧ Below w.heap.size w w' := by
  obtain ⟨ii, hii, hz0, hz1, hz2⟩ := info_parts info_int
  obtain ⟨l, rfl⟩ : ∃ l, n = l + 1 := ⟨n - 1, by omega⟩
  obtain ⟨g1, g2, g3, g4⟩ := treeErr_good he
  have hV := trees_all he
  have hC := fun (aw : Option Addr) (cw : Nat) (W : World) (h : RowsAt W a m ps) (h2 : IntsAt W aw (l + 1) (idL (l + 1))) (h3 : aw = none → cw = 0) => Htrees_any (l + 1) hn a m cap ps (by have := hr.1; omega) g4 l 0 aw cw (idL (l + 1)) W (by omega) (by omega) h h2 h3
  rw [List.drop_zero, hV] at hC
  generalize treesV ((l + 1 : Nat) : Int) ps = V at *
  have HC := Lib.hid (show ∀ (aw : Option Addr) (cw : Nat) (W : World), RowsAt W a m ps → IntsAt W aw (l + 1) (idL (l + 1)) → (aw = none → cw = 0) → Calls Tryd.prog 17 #[.slice a m cap, .int .i64 0, .slice aw (l + 1) cw, .int .i64 l] W fun e w' => e = .returned (.int .i64 V) ∧ Below W.heap.size W w' from hC)
  have HR := Lib.hid hr
  clear hr he g1 g2 g3 g4 hV hC
  go_enter Tryd.func7, Tryd.ntmps7
  go_wp2_with fail
  go_loopg [5, 6] (l + 2) (fun g y i wx => ∃ j : Nat, j ≤ l + 1 ∧ l + 1 - j < g ∧ i = .int .i64 j ∧ OwnInts wx w.heap.size y (idL j) ∧ Below w.heap.size w wx)
  case atStart => exact ⟨0, by omega, by omega, rfl, OwnInts.nil _ _, Below.refl _ _⟩
  case round =>
    obtain ⟨j, hj, hgj, rfl, hown, hbel⟩ := hrel
    have HOW := Lib.hid hown
    have HB := Lib.hid hbel
    have hsz := hbel.size
    clear hown hbel
    by_cases hjn : j < l + 1
    · have hji : (j : Int) < (l : Int) + 1 := by omega
      have hjl : (idL j).length ≤ 6 := by rw [idL_len]; omega
      have HID := Lib.hid (idL_succ j)
      go_wp2_with (at_builtin; refine wpList_append_own1 (o := ⟨some 15, _, _, _, _, _⟩) rfl _ _ 28 rfl w.heap.size 3 ii (.int .i64 0) 8 Tryd.underlying28 hii hz0 hz1 hz2 rfl _ (idL j).length ((idL j).map (Value.int .i64)) rfl (World.ownsRow.alloc HOW.out _) (some ⟨wr.heap.size, 0, none⟩) 1 1 [.int .i64 (j : Int)] rfl rfl (fun h => by cases h) (one_new _ _ _) (one_int _ _) (by unfold maxLen; omega) (by omega) (le_alloc hsz _) ?_; intro v5 w5 hown5 hgrow5)
      have ho5 : OwnInts w5 w.heap.size v5 (idL (j + 1)) := by rw [HID.out]; exact OwnInts.snoc rfl hown5
      have hb5 : Below w.heap.size w w5 := own_grow HB.out HOW.out hgrow5
      clear hown5 hgrow5
      go_roundg (l + 1 - j)
      case measure => omega
      case rel => exact ⟨j + 1, by omega, by omega, by go_num, ho5, hb5⟩
    · obtain rfl : j = l + 1 := by omega
      obtain ⟨a5, c5, rfl, _, _, hn5, hi5⟩ := HOW.out.shape
      rw [idL_len] at hi5 ⊢
      have HI5 := Lib.hid hi5
      have HN5 := Lib.hid hn5
      clear hi5 hn5
      go_wp2_with (go_at_call 17; refine (HC.out _ _ _ (HR.out.call HB.out) HI5.out HN5.out).mono ?_; rintro e w6 ⟨rfl, hb6⟩)
      go_ret
      exact ⟨rfl, below_trans HB.out hb6⟩

theorem inh_any (n lo hi : Int) (w : World) :
    Calls Tryd.prog 12 #[.int .i64 n, .int .i64 lo, .int .i64 hi] w fun e w' => e = .returned (.bool (inB n lo hi)) ∧ w = w' := by
  by_cases h1 : lo ≤ n <;> by_cases h2 : n ≤ hi
  all_goals
    go_enter Tryd.func12, Tryd.ntmps12
    go_wp2
    go_ret
    exact ⟨ret_bool (by simp [inB, h1, h2]), rfl⟩

set_option maxHeartbeats 1000000 in
theorem HPairs_any (n : Int) (a : Option Addr) (m cap : Nat) (ps : List (List Int)) (w : World) (hr : RowsAt w a m ps) (hs : Small m ps) :
    Calls Tryd.prog 4 #[.int .i64 n, .slice a m cap] w fun e w' => e = .returned (.int .i64 (treeErr n ps)) ∧ Below w.heap.size w w' := by
  have hl := hr.1
  obtain ⟨hn, hbig⟩ := hs
  cases hob : outB 1 6 n
  · have hin : inB n 1 6 = true := by rw [inB_out, hob]; rfl
    by_cases hm : 15 < m
    · have E : treeErr n ps = 4 := by unfold treeErr; rw [if_neg (by simp [hob]), if_pos (by omega)]
      rw [E]
      have hmi : (15 : Int) < m := by omega
      clear E hl hr hbig hob
      go_enter Tryd.func4, Tryd.ntmps4
      go_wp2_with fail
      go_at_call 12
      refine (inh_any _ _ _ _).mono ?_
      rintro e w1 ⟨rfl, rfl⟩
      rw [hin]
      go_wp2_with fail
      go_ret
      exact ⟨rfl, Below.refl _ _⟩
    · have E : treeErr n ps = pairsErr n ps := by unfold treeErr; rw [if_neg (by simp [hob]), if_neg (by omega)]
      rw [E]
      have hn1 : 1 ≤ n ∧ n ≤ 6 := by simp [outB] at hob; omega
      obtain ⟨hn1, hn2⟩ := hn1
      have hmi : ¬ (15 : Int) < m := by omega
      have HR := Lib.hid hr
      have HLN := Lib.hid hl
      have HBG := Lib.hid hbig
      clear E hr hl hbig hob
      go_enter Tryd.func4, Tryd.ntmps4
      go_wp2_with fail
      go_at_call 12
      refine (inh_any _ _ _ _).mono ?_
      rintro e w1 ⟨rfl, rfl⟩
      rw [hin]
      go_wp2_with fail
      go_loopg [5] (m + 1) (fun g i wr => ∃ k : Nat, k ≤ m ∧ m - k < g ∧ i = .int .i64 k ∧ (∀ i, i < k → GoodP n (ps.getD i [])) ∧ Below w.heap.size w wr)
      case atStart => exact ⟨0, by omega, by omega, rfl, fun i hi => by omega, Below.refl _ _⟩
      case round =>
        obtain ⟨k, hk, hg, rfl, hpre, hbel⟩ := hrel
        have HP := Lib.hid hpre
        have HRR := Lib.hid (HR.out.call hbel)
        clear hpre
        by_cases hlt : k < m
        · obtain ⟨b, off, ra, rc, rfl, hc, e1, e2, e3, e4⟩ := HRR.out.2 k hlt
          have hbr : b < wr.heap.size := World.block_lt_of_cell? _ _ hc
          have hbk := HBG.out k hlt
          obtain ⟨row, hrow⟩ : ∃ r, r = ps.getD k [] := ⟨_, rfl⟩
          rw [← hrow] at hc e1 e4 hbk
          obtain ⟨M, hM⟩ : ∃ M, M = row.length := ⟨_, rfl⟩
          rw [← hM] at hc e1 e4 hbk
          have HRW := Lib.hid hrow
          have HM := Lib.hid hM
          have E4 := Lib.hid e4
          have hki : (k : Int) < m := by omega
          clear hrow hM e3 e4
          by_cases hML : M = 2
          · subst hML
            obtain ⟨b2, off2, rfl, hb2, hcs⟩ := E4.out.some (by omega)
            have x0 := hcs 0 (by omega)
            have x1 := hcs 1 (by omega)
            obtain ⟨x, hx⟩ : ∃ x, x = row.getD 0 0 := ⟨_, rfl⟩
            obtain ⟨y, hy⟩ : ∃ y, y = row.getD 1 0 := ⟨_, rfl⟩
            rw [← hx, Nat.add_zero] at x0
            rw [← hy] at x1
            have HX := Lib.hid hx
            have HY := Lib.hid hy
            clear hx hy hcs
            by_cases hxy : x = y
            · have hxb : (x == y) = true := by simp [hxy]
              have HE := Lib.hid (pairsErr_three (n := n) (by rw [HLN.out]; exact hlt) HP.out (Or.inr (by rw [← HRW.out, ← HX.out, ← HY.out]; exact hxy)))
              clear hxy
              go_wp2_with fail
              go_quiet (fail)
              go_wp2_with fail
              go_ret
              exact ⟨ret_int HE.out.symm, below_trans hbel (below_dN wr nq)⟩
            · have hxb : (x == y) = false := by simp [hxy]
              have HXY := Lib.hid hxy
              clear hxy
              cases hao : anyOut 0 (n - 1) row
              · have HAO := Lib.hid hao
                have hra := fun W (h : IntsAt W (some ⟨b2, off2, none⟩) 2 row) => RAll_any _ 2 rc row 0 (n - 1) W h (by omega)
                rw [hao] at hra
                have HRA := Lib.hid hra
                clear hao hra
                go_wp2_with fail
                go_quiet (fail)
                go_wp2_with fail
                go_at_call 13
                refine (HRA.out _ (E4.out.call (below_dN wr nq))).mono ?_
                rintro e w3 ⟨rfl, rfl⟩
                go_wp2_with fail
                go_roundg (m - k)
                case measure => omega
                case rel =>
                  refine ⟨k + 1, by omega, by omega, by go_num, fun i hi => ?_, below_trans hbel (below_dN wr nq)⟩
                  by_cases hik : i < k
                  · exact HP.out i hik
                  · obtain rfl : i = k := by omega
                    rw [← HRW.out]
                    exact ⟨by rw [← HM.out], by rw [← HX.out, ← HY.out]; exact HXY.out, HAO.out⟩
              · have HE := Lib.hid (pairsErr_one (n := n) (by rw [HLN.out]; exact hlt) HP.out (by rw [← HRW.out, ← HX.out, ← HY.out, ← HM.out]; intro h; rcases h with h | h; exact h rfl; exact HXY.out h) (by rw [← HRW.out]; exact hao))
                have hra := fun W (h : IntsAt W (some ⟨b2, off2, none⟩) 2 row) => RAll_any _ 2 rc row 0 (n - 1) W h (by omega)
                rw [hao] at hra
                have HRA := Lib.hid hra
                clear hao hra
                go_wp2_with fail
                go_quiet (fail)
                go_wp2_with fail
                go_at_call 13
                refine (HRA.out _ (E4.out.call (below_dN wr nq))).mono ?_
                rintro e w3 ⟨rfl, rfl⟩
                go_wp2_with fail
                go_ret
                exact ⟨ret_int HE.out.symm, below_trans hbel (below_dN wr nq)⟩
          · have hMb : ((M : Int) != 2) = true := by simp; omega
            have HE := Lib.hid (pairsErr_three (n := n) (by rw [HLN.out]; exact hlt) HP.out (Or.inl (by rw [← HRW.out, ← HM.out]; exact hML)))
            clear hML
            go_wp2_with fail
            go_ret
            exact ⟨ret_int HE.out.symm, hbel⟩
        · have HE := Lib.hid (pairsErr_zero (n := n) (ps := ps) (fun i hi => HP.out i (by rw [HLN.out] at hi; omega)))
          have hki : ¬ (k : Int) < m := by omega
          go_wp2_with fail
          go_ret
          exact ⟨ret_int HE.out.symm, hbel⟩
  · have E : treeErr n ps = 1 := by unfold treeErr; rw [if_pos hob]
    rw [E]
    have hin : inB n 1 6 = false := by rw [inB_out, hob]; rfl
    clear E hl hr hbig hob
    go_enter Tryd.func4, Tryd.ntmps4
    go_wp2_with fail
    go_at_call 12
    refine (inh_any _ _ _ _).mono ?_
    rintro e w1 ⟨rfl, rfl⟩
    rw [hin]
    go_wp2_with fail
    go_ret
    exact ⟨rfl, Below.refl _ _⟩

theorem betw_take {ps : List (List Int)} {k : Nat} (hk : k < ps.length) (a b : Nat) : betw (ps.take (k + 1)) a b = betw (ps.take k) a b + if (ptA (ps.getD k []) = a ∧ ptB (ps.getD k []) = b) ∨ (ptA (ps.getD k []) = b ∧ ptB (ps.getD k []) = a) then 1 else 0 := by
  rw [take_snoc' ps k hk]
  generalize ps.take k = qs
  induction qs with
  | nil => rw [List.nil_append, betw_cons]
  | cons e es ih => rw [List.cons_append, betw_cons, ih, betw_cons]; omega
set_option maxHeartbeats 1000000 in
theorem HBetween_any (n : Nat) (a : Option Addr) (m cap : Nat) (ps : List (List Int)) (p q : Nat) (w : World) (hr : RowsAt w a m ps) (hm : m ≤ 15) (hg : ∀ e ∈ ps, GoodP n e) :
    Calls Tryd.prog 8 #[.slice a m cap, .int .i64 p, .int .i64 q] w fun e w' => e = .returned (.int .i64 (betw ps p q)) ∧ w = w' := by
  have HR := Lib.hid hr
  have HL := Lib.hid hr.1
  have HG := Lib.hid hg
  clear hr hg
  go_enter Tryd.func8, Tryd.ntmps8
  go_wp2_with fail
  go_loopg [7, 8] (m + 1) (fun g s i wr => ∃ k : Nat, k ≤ m ∧ m - k < g ∧ s = .int .i64 (betw (ps.take k) p q) ∧ i = .int .i64 k ∧ wr = w)
  case atStart => exact ⟨0, by omega, by omega, rfl, rfl, rfl⟩
  case round =>
    obtain ⟨k, hk, hg, rfl, rfl, hw⟩ := hrel
    subst hw
    by_cases hlt : k < m
    · obtain ⟨hp0, hp1, hp2, hp3⟩ := (HG.out (ps.getD k []) (by
        have : k < ps.length := by rw [HL.out]; exact hlt
        simp [List.getD, this])).pt
      obtain ⟨b, off, ra, rc, rfl, hc1, hl2, _, _, hrow⟩ := HR.out.2 k hlt
      have hbt := betw_take (ps := ps) (k := k) (by rw [HL.out]; exact hlt) p q
      have hbd := betw_bd (ps.take k) p q
      rw [List.length_take] at hbd
      obtain ⟨u, hu⟩ : ∃ u, u = ptA (ps.getD k []) := ⟨_, rfl⟩
      obtain ⟨v, hv⟩ : ∃ v, v = ptB (ps.getD k []) := ⟨_, rfl⟩
      rw [← hu, ← hv] at hp0 hbt
      rw [hp0] at hc1 hrow
      have hlen2 : ([(u : Int), (v : Int)] : List Int).length = 2 := rfl
      rw [hlen2] at hc1 hrow
      obtain ⟨b2, off2, rfl, hb2, hcs⟩ := hrow.some (by omega)
      have hcu' : wr.cell? ⟨b2, off2, none⟩ = some (.int .i64 u) := hcs 0 (by omega)
      have hcv' : wr.cell? ⟨b2, off2 + 1, none⟩ = some (.int .i64 v) := hcs 1 (by omega)
      have hki : (k : Int) < m := by omega
      obtain ⟨B, hB⟩ : ∃ B, B = betw (ps.take k) p q := ⟨_, rfl⟩
      rw [← hB] at hbt hbd ⊢
      obtain ⟨hb0, hb15⟩ := hbd
      have hb15' : B ≤ 15 := by omega
      have HBT := Lib.hid hbt
      clear hp0 hp1 hp2 hp3 hlen2 hcs hrow hl2 hu hv hB hbt hb15
      have k1 : (u = p) ↔ ((u : Int) == (p : Int)) = true := by simp; omega
      have k2 : (v = q) ↔ ((v : Int) == (q : Int)) = true := by simp; omega
      have k3 : (u = q) ↔ ((u : Int) == (q : Int)) = true := by simp; omega
      have k4 : (v = p) ↔ ((v : Int) == (p : Int)) = true := by simp; omega
      cases t1 : ((u : Int) == (p : Int)) <;> cases t2 : ((v : Int) == (q : Int)) <;> cases t3 : ((u : Int) == (q : Int)) <;> cases t4 : ((v : Int) == (p : Int))
      all_goals
        rw [t1] at k1
        rw [t2] at k2
        rw [t3] at k3
        rw [t4] at k4
        simp only [Bool.false_eq_true, iff_false, iff_true] at k1 k2 k3 k4
        first
        | (have HN := Lib.hid (show betw (ps.take (k + 1)) p q = B + 1 by rw [HBT.out, if_pos (by omega)])
           clear k1 k2 k3 k4
           go_wp2_with fail
           go_roundg (m - k)
           case measure => omega
           case rel => exact ⟨k + 1, by omega, by omega, by rw [HN.out], by go_num, rfl⟩)
        | (have HN := Lib.hid (show betw (ps.take (k + 1)) p q = B by rw [HBT.out, if_neg (by omega)]; omega)
           clear k1 k2 k3 k4
           go_wp2_with fail
           go_roundg (m - k)
           case measure => omega
           case rel => exact ⟨k + 1, by omega, by omega, by rw [HN.out], by go_num, rfl⟩)
    · obtain rfl : k = m := by omega
      have hfin : betw (ps.take k) p q = betw ps p q := by rw [List.take_of_length_le (by rw [HL.out]; omega)]
      have HF := Lib.hid hfin
      clear hfin
      go_wp2_with fail
      go_ret
      exact ⟨ret_int HF.out, rfl⟩
end Go.Proofs.YtabenflchnobmaaDoor
