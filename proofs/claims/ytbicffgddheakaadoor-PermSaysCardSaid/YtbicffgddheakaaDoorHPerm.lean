/- Contract of the reference's Perm. -/
import Derived.Test.YtbicffgddheakaaDoorRHas
import Derived.Test.YtbicffgddheakaaDoorSnoc
import Derived.Test.YtbicffgddheakaaDoorAny
import Derived.Test.YtbicffgddheakaaDoorHPermMath
import Derived.Test.YtbicffgddheakaaDoorPermOf
import Derived.Deep.LoopGhost
import Derived.Deep.RegionHeld3
import Derived.Deep.AppendLies
namespace Go.Proofs.YtbicffgddheakaaDoor
open Go.RowKit
set_option linter.unusedVariables false
set_option linter.unusedSimpArgs false

theorem OwnInts.intsAt' {w : World} {B : Nat} {a : Option Addr} {n cap : Nat} {xs : List Int} (h : OwnInts w B (.slice a n cap) xs) : IntsAt w a n xs := by
  obtain ⟨a', cap', e, _, _, _, h5⟩ := h.shape
  cases e
  exact h5
set_option maxHeartbeats 1000000 in
theorem HPerm_any (n : Nat) (hn : n ≤ 1000) (a : Option Addr) (cap : Nat) (hcap : n ≤ cap) (rows : List (List Int)) (hsq : Sq n rows) (k : Nat) : ∀ (au : Option Addr) (l cu : Nat) (used : List Int) (w : World), k + l = n → RowsAt w a n rows → IntsAt w au l used → (au = none → cu = 0) →
    Calls Tryd.prog 7 #[.slice a n cap, .slice au l cu] w fun e w' => e = .returned (.int .i64 (wrap64 (permU n (fn rows) k used))) ∧ Below w.heap.size w w' := by
  induction k with
  | zero =>
    intro au l cu used w hl hr hu hc
    obtain rfl : l = n := by omega
    go_enter Tryd.func7, Tryd.ntmps7
    go_wp2_with fail
    go_ret
    exact ⟨ret_int (by rw [permU, wrap_in (by omega) (by omega)]), Below.refl _ _⟩
  | succ k ih =>
    intro au l cu used w hl hr hu hc
    have hln : l < n := by omega
    obtain ⟨ii, hi, hz0, hz1, hz2⟩ := info_parts info_int
    obtain ⟨b, off, rfl, hb⟩ := hr.some (by omega)
    obtain ⟨ra, rc, hc0, hrc, hrm, _, hrow⟩ := hr.row (i := l) (by omega)
    have hlen0 := hsq.2 l (by omega)
    rw [hlen0] at hc0 hrc hrow
    obtain ⟨b0, off0, rfl, hb0, hcells⟩ := hrow.some (by omega)
    obtain ⟨row, hrw⟩ : ∃ r, r = rows.getD l [] := ⟨_, rfl⟩
    have HSQ := Lib.hid hsq
    have HR := Lib.hid hr
    have HU := Lib.hid hu
    have HCU := Lib.hid hc
    have HRW := Lib.hid hrw
    have IH := Lib.hid ih
    have hcell : ∀ i, i < n → w.cell? ⟨b0, off0 + i, none⟩ = some (.int .i64 (row.getD i 0)) := by rw [hrw]; exact hcells
    have HC := Lib.hid hcell
    have HC0 := Lib.hid hc0
    have hlni : ((l : Int) == (n : Int)) = false := by simp; omega
    clear hsq hr hu hrw hrow hlen0 hcells ih hcell hc0 hc
    obtain ⟨F, hF⟩ : ∃ F : Nat → Int, F = fun (j : Nat) => if (j : Int) ∈ used then 0 else fn rows (n - (k + 1)) j * permU n (fn rows) k (used ++ [(j : Int)]) := ⟨_, rfl⟩
    have HF := Lib.hid hF
    have hgoal : wrap64 (permU n (fn rows) (k + 1) used) = wrap64 (sumTo F n) := by rw [permU, hF]
    rw [hgoal]
    clear hF hgoal
    go_enter Tryd.func7, Tryd.ntmps7
    go_wp2_with fail
    go_loopg [6, 7] (n + 1) (fun g s i wr => ∃ j : Nat, j ≤ n ∧ n - j < g ∧ s = .int .i64 (wrap64 (sumTo F j)) ∧ i = .int .i64 j ∧ Below w.heap.size w wr)
    case atStart => exact ⟨0, by omega, by omega, by rw [sumTo, wrap_in (by omega) (by omega)], rfl, Below.refl _ _⟩
    case round =>
      obtain ⟨j, hj, hg, rfl, rfl, hbel⟩ := hrel
      by_cases hlt : j < n
      · obtain ⟨x, hx⟩ : ∃ x, x = row.getD j 0 := ⟨_, rfl⟩
        have hS : ∀ W, Below w.heap.size w W → W.cell? ⟨b, off + l, none⟩ = some (.slice (some ⟨b0, off0, none⟩) n rc) ∧ W.cell? ⟨b0, off0 + j, none⟩ = some (.int .i64 x) := fun W h =>
          ⟨by rw [h.cell (p := ⟨b, off + l, none⟩) hb]; exact HC0.out, by rw [h.cell (p := ⟨b0, off0 + j, none⟩) hb0, hx]; exact HC.out j hlt⟩
        obtain ⟨hs1', hs2'⟩ := hS wr hbel
        have hFj : F j = if (j : Int) ∈ used then 0 else x * permU n (fn rows) k (used ++ [(j : Int)]) := by
          rw [HF.out, hx, HRW.out]
          show (if (j : Int) ∈ used then 0 else fn rows (n - (k + 1)) j * _) = _
          rw [show n - (k + 1) = l by omega]
          rfl
        have HSS := Lib.hid hS
        clear hS hx
        have hsum : sumTo F (j + 1) = sumTo F j + F j := by rw [sumTo]
        rw [hFj] at hsum
        obtain ⟨P, hP⟩ : ∃ P, P = sumTo F j := ⟨_, rfl⟩
        rw [← hP] at hsum ⊢
        have HSUM := Lib.hid hsum
        clear hP hsum hFj
        have hj0 : (0 : Int) ≤ j := by omega
        have hj1 : (j : Int) < n := by omega
        have hl0 : (0 : Int) ≤ l := by omega
        have hl1 : (l : Int) < n := by omega
        by_cases hin : (j : Int) ∈ used
        · have hr1 := fun W (h : IntsAt W au l used) => RHas_any au l cu used (j : Int) W h (by omega)
          rw [show decide ((j : Int) ∈ used) = true by simpa using hin] at hr1
          have HR1 := Lib.hid hr1
          have HZ := Lib.hid (show sumTo F (j + 1) = P by rw [HSUM.out, if_pos hin]; omega)
          have HUW := Lib.hid (HU.out.call hbel)
          clear hr1 hin HSUM
          go_wp2_with (go_at_call 14; refine (HR1.out _ HUW.out).mono ?_; rintro e w' ⟨rfl, rfl⟩)
          go_roundg (n - j)
          case measure => omega
          case rel => exact ⟨j + 1, by omega, by omega, by rw [HZ.out], by go_num, hbel⟩
        · have hr1 := fun W (h : IntsAt W au l used) => RHas_any au l cu used (j : Int) W h (by omega)
          rw [show decide ((j : Int) ∈ used) = false by simpa using hin] at hr1
          have HR1 := Lib.hid hr1
          have HUW := Lib.hid (HU.out.call hbel)
          clear hr1
          by_cases hx0 : x = 0
          · have hxb : (x != 0) = false := by simp [hx0]
            have HZ := Lib.hid (show sumTo F (j + 1) = P by rw [HSUM.out, if_neg hin, hx0]; omega)
            clear hx0 hin HSUM
            go_wp2_with (go_at_call 14; refine (HR1.out _ HUW.out).mono ?_; rintro e w' ⟨rfl, rfl⟩)
            go_roundg (n - j)
            case measure => omega
            case rel => exact ⟨j + 1, by omega, by omega, by rw [HZ.out], by go_num, hbel⟩
          · have hxb : (x != 0) = true := by simp [hx0]
            have HZ := Lib.hid (show sumTo F (j + 1) = P + x * permU n (fn rows) k (used ++ [(j : Int)]) by rw [HSUM.out, if_neg hin])
            have hul := HU.out.1
            have hml : (used.map (Value.int .i64)).length = l := by rw [List.length_map, hul]
            have HML := Lib.hid hml
            have HUL := Lib.hid hul
            have HCE := Lib.hid (cells_of_ints HUW.out)
            clear hx0 hin HSUM hul hml
            go_wp2_with (first
              | (go_at_call 14; refine (HR1.out _ HUW.out).mono ?_; rintro e w' ⟨rfl, rfl⟩)
              | (at_builtin; refine wpList_append_own1 (o := ⟨some 37, _, _, _, _, _⟩) rfl _ _ 33 rfl wr.heap.size 3 ii (.int .i64 0) 8 Tryd.underlying33 hi hz0 hz1 hz2 rfl _ 0 [] rfl (World.ownsRow_nil _ _ _ _) _ l _ (used.map (Value.int .i64)) rfl HML.out HCU.out (fun j u h => HCE.out j u h) (ints_oneCell _ _) (by unfold maxLen; omega) (by omega) (Nat.le_refl _) ?_; intro v1 w1 hown1 hgrow1))
            have hf1 := fresh1 hgrow1
            have hoi : OwnInts w1 wr.heap.size v1 used := by
              unfold OwnInts
              rw [HUL.out]
              simpa using hown1
            have hb1 : Below w.heap.size w w1 := hbel.trans (hf1.mono hbel.size)
            have hownA := OwnInts.call (show OwnInts (w1.alloc (.cells #[.int .i64 (j : Int)] 3)) wr.heap.size v1 used from World.ownsRow.alloc hoi _) (Cls.start (N := (w1.alloc (.cells #[.int .i64 (j : Int)] 3)).heap.size))
            have hnewA : ∀ (q : Nat) (u : Value), [Value.int .i64 (j : Int)][q]? = some u → (w1.alloc (.cells #[.int .i64 (j : Int)] 3)).drew.cell? ((⟨w1.heap.size, 0, none⟩ : Addr).add q) = some u := fun q u h => by
              obtain ⟨_, e, h2⟩ := one_new w1 (.int .i64 (j : Int)) 3 q u h
              cases e
              exact h2
            have hbaseA : wr.heap.size ≤ (w1.alloc (.cells #[.int .i64 (j : Int)] 3)).drew.heap.size := le_alloc hf1.size _
            have h63A : used.length + 1 ≤ maxLen := by rw [HUL.out]; unfold maxLen; omega
            have hbyA : (used.length + 1) * 8 ≤ 140737488355328 := by rw [HUL.out]; omega
            have HA := Lib.hid hownA
            have HNA := Lib.hid hnewA
            have HBA := Lib.hid hbaseA
            have H6A := Lib.hid h63A
            have H8A := Lib.hid hbyA
            have HB1 := Lib.hid hb1
            have hdA : Below w.heap.size w (w1.alloc (.cells #[.int .i64 (j : Int)] 3)).drew := (hb1.alloc hb1.size _).trans Cls.start
            have HDA := Lib.hid hdA
            have hk3 : ∀ (w3 : World), (w1.alloc (.cells #[.int .i64 (j : Int)] 3)).drew.grownBy w3 v1.ownBlock → Below w.heap.size w w3 := fun w3 hg3 => hdA.trans (grown_below hg3 hdA.size (fun q hq => by
              have := (World.ownsRow.lt hoi q hq).1
              have := hbel.size
              omega))
            have HK3 := Lib.hid hk3
            obtain ⟨k1, k2⟩ := HSS.out w1 hb1
            clear hownA hnewA hbaseA h63A hbyA hdA hk3 hb1 hown1 hgrow1 hs1' hs2'
            go_wp2_with fail
            go_region_held3 (fun w' => w'.cell? ⟨b, off + l, none⟩ = some (.slice (some ⟨b0, off0, none⟩) n rc) ∧ w'.cell? ⟨b0, off0 + j, none⟩ = some (.int .i64 x))
              (first | exact HSS.out _ (HB1.out.trans Cls.start) | exact HSS.out _ HDA.out | exact HSS.out _ (HK3.out _ hgrow3) | exact HSS.out _ (below_trans (HK3.out _ hgrow3) hb4))
              (first
                | (refine step_append_lies _ (by rfl) _ _ _ (by rfl) wr.heap.size 3 ii (.int .i64 0) 1 8 Tryd.underlying33 hi hz0 hz1 hz2 (by rfl) (by decide) _ used.length (used.map (Value.int .i64)) (by rfl) HA.out ⟨w1.heap.size, 0, none⟩ 1 1 [.int .i64 (j : Int)] (by rfl) (by rfl) HNA.out (one_int _ _) (by decide) H6A.out H8A.out HBA.out _ rfl ?_; intro g3 cap3 w3 hown3 hgrow3 hat3 hlt3)
                | (go_at_call 7; refine (IH.out _ _ _ (used ++ [(j : Int)]) _ (by have := HUL.out; omega) (HR.out.call (HK3.out _ hgrow3)) (OwnInts.intsAt' (OwnInts.snoc rfl hown3)) (fun h => by cases h)).mono ?_; rintro e w4 ⟨rfl, hb4⟩))
            have hbel4 := below_trans (HK3.out _ hgrow3) hb4
            clear k1 k2
            go_wp2_with fail
            go_roundg (n - j)
            case measure => omega
            case rel => exact ⟨j + 1, by omega, by omega, by simp only [IntWalk.i64_left]; rw [wrap_term1, HZ.out], by go_num, hbel4⟩
      · obtain rfl : j = n := by omega
        go_wp2_with fail
        go_ret
        exact ⟨rfl, hbel⟩
end Go.Proofs.YtbicffgddheakaaDoor
