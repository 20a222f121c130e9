/- Contract of the reference's Hermite. -/
import Derived.Test.YtijlhdgagaehaaaDoorHhUp
import Derived.Test.YtijlhdgagaehaaaDoorHerCheck
import Derived.Test.YtijlhdgagaehaaaDoorHerMem
import Derived.Test.YtijlhdgagaehaaaDoorRCopy
import Derived.Test.YtijlhdgagaehaaaDoorRAbs
import Derived.Test.YtijlhdgagaehaaaDoorTail
import Derived.Deep.LoopGhost
import Derived.BigRegion
import Derived.BigQuiet
import Derived.Deep.QuietTactic
import Derived.Deep.DeepCutAuto
import Derived.StillTailTactics
import Derived.RegionTactic
namespace Go.Proofs.YtijlhdgagaehaaaDoor
open Go.RowKit
set_option linter.unusedVariables false
set_option linter.unusedSimpArgs false

theorem HFloor_any (a b : Int) (w : World) (hb : 0 < b) (hb2 : b ≤ 48000) (ha : a.natAbs ≤ 2000000000000000000) :
    Calls Tryd.prog 21 #[.int .i64 a, .int .i64 b] w fun e w' => e = .returned (.int .i64 (a / b)) ∧ w = w' := by
  have hb0 : (b == 0) = false := by simp; omega
  have hbn : b ≠ 0 := by omega
  by_cases h0 : 0 ≤ a
  · have hd : a.tdiv b = a / b := Int.tdiv_eq_ediv_of_nonneg h0
    obtain ⟨f1, _, _, _⟩ := floor_abs (x := a) hb
    have hw : IntKind.i64.wrap (a / b) = a / b := IntWalk.i64_in _ (by omega)
    obtain ⟨q, hq⟩ : ∃ q, q = a / b := ⟨_, rfl⟩
    rw [← hq] at hd hw ⊢
    clear hq f1
    go_enter Tryd.func21, Tryd.ntmps21
    go_wp2_with fail
    go_ret
    exact ⟨rfl, rfl⟩
  · have hd := floor_neg hb (show a < 0 by omega)
    obtain ⟨f1, _, _, _⟩ := floor_abs (x := a) hb
    obtain ⟨q, hq⟩ : ∃ q, q = a / b := ⟨_, rfl⟩
    rw [← hq] at hd f1 ⊢
    have ht : (b - 1 - a).tdiv b = -q := by omega
    have hw1 : IntKind.i64.wrap (b - 1) = b - 1 := IntWalk.i64_in _ (by omega)
    have hw2 : IntKind.i64.wrap (b - 1 - a) = b - 1 - a := IntWalk.i64_in _ (by omega)
    have hw3 : IntKind.i64.wrap (-q) = -q := IntWalk.i64_in _ (by omega)
    have hw4 : IntKind.i64.wrap (- -q) = q := by rw [Int.neg_neg]; exact IntWalk.i64_in _ (by omega)
    have hw5 : IntKind.i64.wrap q = q := IntWalk.i64_in _ (by omega)
    have h1 : ¬ 0 ≤ a := h0
    clear hq f1 hd
    go_enter Tryd.func21, Tryd.ntmps21
    go_wp2_with fail
    go_ret
    exact ⟨rfl, rfl⟩

/-- a matrix of the call's own -/
structure HMat (w wr : World) (G n cap : Nat) (vs : List Value) (T : List (List Int)) : Prop where
  own : OwnRowsV wr w.heap.size (.slice (some ⟨G, 0, none⟩) n cap) vs T
  bel : Below w.heap.size w wr
  sq : Sq n T
theorem HMat.call {w wr w2 : World} {G n cap : Nat} {vs : List Value} {T : List (List Int)} (h : HMat w wr G n cap vs T) (hb : Below wr.heap.size wr w2) : HMat w w2 G n cap vs T :=
  ⟨h.own.call hb, h.bel.trans (hb.mono h.bel.size), h.sq⟩
theorem HMat.at {w wr : World} {G n cap : Nat} {vs : List Value} {T : List (List Int)} (h : HMat w wr G n cap vs T) {i j : Nat} (hi : i < n) (hj : j < n) :
    ∃ g rc, wr.cell? ⟨G, i, none⟩ = some (.slice (some ⟨g, 0, none⟩) n rc) ∧ vs.getD i undef = .slice (some ⟨g, 0, none⟩) n rc ∧ wr.frozen? ⟨g, j, none⟩ = false ∧ wr.cell? ⟨g, j, none⟩ = some (.int .i64 (fn T i j)) ∧
      ∀ x, HMat w (wr.setCell ⟨g, j, none⟩ (.int .i64 x)) G n cap vs (putE T i j x) := by
  obtain ⟨g, rc, h1, h2, h3, h4, h5, h6, h7, h8⟩ := h.own.at h.sq hi hj
  exact ⟨g, rc, h1, h5, h6, h7, fun x => ⟨h8 x, h.bel.setCell (p := ⟨g, j, none⟩) (by show w.heap.size ≤ g; omega) _, put_sq h.sq _ _ _⟩⟩
theorem HMat.swap {w wr : World} {G n cap : Nat} {vs : List Value} {T : List (List Int)} (h : HMat w wr G n cap vs T) {i j : Nat} (hi : i < n) (hj : j < n) :
    HMat w ((wr.setCell ⟨G, i, none⟩ (vs.getD j undef)).setCell ⟨G, j, none⟩ (vs.getD i undef)) G n cap (swapVs vs i j) (swapL T i j) := by
  have hl := h.sq.1
  obtain ⟨hG1, hG2⟩ := h.own.base
  exact ⟨h.own.swap (by omega) (by omega), (h.bel.setCell (p := ⟨G, i, none⟩) (by show w.heap.size ≤ G; omega) _).setCell (p := ⟨G, j, none⟩) (by show w.heap.size ≤ G; omega) _, sq_swap h.sq hi hj⟩
theorem HMat.head {w wr : World} {G n cap : Nat} {vs : List Value} {T : List (List Int)} (h : HMat w wr G n cap vs T) {i : Nat} (hi : i < n) : wr.cell? ⟨G, i, none⟩ = some (vs.getD i undef) ∧ wr.frozen? ⟨G, i, none⟩ = false :=
  ⟨h.own.isCell (by rw [h.sq.1]; exact hi), h.own.free i⟩
theorem below_drewN' (w : World) (n : Nat) : Below w.heap.size w (w.drewN n) := ⟨rfl, rfl, rfl, Nat.le_refl _, fun _ _ => rfl⟩
theorem HhSt.congr {n c L : Nat} {M0 M N : Nat → Nat → Int} (h : HhSt n c L M0 M) (hc : c < n) (he : ∀ a b, a < n → b < n → N a b = M a b) : HhSt n c L M0 N :=
  ⟨h.core.congr hc he, fun a h1 h2 => by rw [he a c h2 hc]; exact h.lead a h1 h2, h.lmax⟩
theorem sw_last (p c : Nat) : sw p c c = p := by
  unfold sw
  by_cases h : c = p
  · rw [if_pos h, h]
  · rw [if_neg h, if_pos rfl]
theorem natAbs_tdiv_le' (y x : Int) : (y.tdiv x).natAbs ≤ y.natAbs := by
  rw [Int.natAbs_tdiv]
  exact Nat.div_le_self _ _
theorem fn_swapR {n : Nat} {T : List (List Int)} (hs : Sq n T) {i j : Nat} (hi : i < n) (hj : j < n) : fn (swapL T i j) = swapR (fn T) i j := by
  funext a b
  exact fn_swapL hs hi hj a b

set_option maxRecDepth 100000 in
set_option maxHeartbeats 8000000 in
theorem HHermite_any (b off n cap : Nat) (rows : List (List Int)) (w : World) (hr : RowsAt w (some ⟨b, off, none⟩) n rows) (hcap : n ≤ cap) (hk : HerOk n rows) :
    Calls Tryd.prog 7 #[.slice (some ⟨b, off, none⟩) n cap] w fun e w' => (∃ G' c' vs T, e = .returned (.slice (some ⟨G', 0, none⟩) n c') ∧ OwnRowsV w' w.heap.size (.slice (some ⟨G', 0, none⟩) n c') vs T ∧ Sq n T ∧ FormOf n (fn rows) (fn T)) ∧ Below w.heap.size w w' := by
  have hn0 := hk.pos
  have hn3 := hk.le
  have hG0 : (G (-1) n (fn rows)).natAbs ≤ 48000 := by have := hk.bd; omega
  have hdet := hk.det
  have hC := RCopy_any (some ⟨b, off, none⟩) n cap rows w hr (by omega) hcap (fun k hk' => by rw [hk.sq.2 k hk']; omega)
  have HST := Lib.hid (HhGo.first (n := n) (M := fn rows) (fun a b _ _ => hk.ent a b))
  have HSQ := Lib.hid hk.sq
  have HDET := Lib.hid hdet
  have HLEN := Lib.hid hk.len
  clear hr hk hdet
  go_enter Tryd.func7, Tryd.ntmps7
  go_wp2_with fail
  go_at_call 19
  refine (hC).mono ?_
  rintro e w1 ⟨⟨va, rfl, hcb⟩, hb1⟩
  obtain ⟨vs, hvs⟩ := hcb.vals
  obtain ⟨Gk, capk, rfl, hcapk⟩ := hvs.isRows (by rw [HLEN.out]; omega)
  rw [HLEN.out] at hvs hcapk ⊢
  have HM0 := Lib.hid (show HMat w w1 Gk n capk vs rows from ⟨hvs, hb1, HSQ.out⟩)
  clear hcb hvs hb1 hC
  have hnn : (0 : Int) < n := by omega
  go_wp2_with fail
  go_loopg [5] (n + 1) (fun g i wr => ∃ (c : Nat) (T : List (List Int)) (vs : List Value), c ≤ n ∧ n - c < g ∧ i = .int .i64 c ∧ HMat w wr Gk n capk vs T ∧ HhGo n c (fn rows) (fn T))
  case atStart => exact ⟨0, rows, vs, by omega, by omega, rfl, HM0.out, HST.out⟩
  case round =>
    obtain ⟨c, T, vs, hc, hg, rfl, hM, hS⟩ := hrel
    have HM := Lib.hid hM
    have HS := Lib.hid hS
    clear HM0 HST hM hS
    by_cases hlt : c < n
    · have hc0 : (0 : Int) ≤ c := by omega
      have hc1 : (c : Int) < n := by omega
      go_wp2_with fail
      go_loopg [] (L0 c + 1) (fun g wr => ∃ (L : Nat) (T : List (List Int)) (vs : List Value), L < g ∧ HMat w wr Gk n capk vs T ∧ HhSt n c L (fn rows) (fn T))
      case atStart => exact ⟨L0 c, T, vs, Nat.lt_succ_self _, HM.out, HS.out.start hn3 hlt⟩
      case round =>
        obtain ⟨L, T, vs, hL, hM, hS⟩ := hrel
        clear HM HS
        have HM := Lib.hid hM
        have HS := Lib.hid hS
        clear hM hS
        obtain ⟨wo, rfl⟩ : ∃ wo : World, wo = wr := ⟨_, rfl⟩
        go_wp2_with fail
        go_loopg [6, 7, 8] (n + 1) (fun g s t i wr => ∃ (p : Nat) (best many : Int), c ≤ p ∧ p ≤ n ∧ n - p < g ∧ s = .int .i64 best ∧ t = .int .i64 many ∧ i = .int .i64 p ∧ RowKit.Hid (BestTo (fn T) c p best many) ∧ Below wo.heap.size wo wr)
        case atStart => exact ⟨c, -1, 0, Nat.le_refl _, by omega, by omega, rfl, rfl, rfl, Lib.hid (BestTo.start _ _), Below.refl _ _⟩
        case round =>
          obtain ⟨p, best, many, hp1, hp2, hgp, rfl, rfl, rfl, HB, hbel⟩ := hrel
          have HM1 := Lib.hid (HM.out.call hbel)
          have hmge := HB.out.ge
          have hmle := HB.out.le
          by_cases hpn : p < n
          · have hp0 : (0 : Int) ≤ p := by omega
            have hpn' : (p : Int) < n := by omega
            obtain ⟨gp, rp, fhp, _, _, fep, _⟩ := HM1.out.at hpn hlt
            have hxb := HS.out.core.wide p c hp1 hpn hlt
            have hxw := Wc_le c
            obtain ⟨x, hx⟩ : ∃ x, x = fn T p c := ⟨_, rfl⟩
            rw [← hx] at fep hxb
            have HX := Lib.hid hx
            clear hx
            by_cases hx0 : x = 0
            · have hxn : (x != 0) = false := by simp [hx0]
              have HN := Lib.hid (HB.out.skip (by rw [← HX.out]; exact hx0))
              clear hx0
              go_wp2_with fail
              go_roundg (n - p)
              case measure => omega
              case rel => exact ⟨p + 1, best, many, by omega, by omega, by omega, rfl, rfl, by go_num, HN, hbel⟩
            · have hxn : (x != 0) = true := by simp [hx0]
              have hAx := fun W => RAbs_any x W (by omega) (by omega)
              have hmw : IntKind.i64.wrap (many + 1) = many + 1 := IntWalk.i64_in _ (by omega)
              by_cases hm0 : many = 0
              · subst hm0
                obtain ⟨hb1, _⟩ := HB.out.none rfl
                subst hb1
                have HN := Lib.hid (HB.out.first hp1 (by rw [← HX.out]; exact hx0))
                clear hx0 hmw
                go_wp2_with fail
                go_quiet (fail)
                have hbe := below_trans hbel (below_drewN' wr nq)
                go_wp2_with fail
                go_roundg (n - p)
                case measure => omega
                case rel => exact ⟨p + 1, p, 1, by omega, by omega, by omega, rfl, rfl, by go_num, HN, hbe⟩
              · obtain ⟨bn, hbn, hbc, hbp, -, -, -, -⟩ := HB.out.one hm0
                subst hbn
                have hbnn : bn < n := by omega
                obtain ⟨gb, rb, fhb, _, _, feb, _⟩ := HM1.out.at hbnn hlt
                have hyb := HS.out.core.wide bn c hbc hbnn hlt
                obtain ⟨y, hy⟩ : ∃ y, y = fn T bn c := ⟨_, rfl⟩
                rw [← hy] at feb hyb
                have hAy := fun W => RAbs_any y W (by omega) (by omega)
                have ex : absI x = x.natAbs := by unfold absI; split <;> omega
                have ey : absI y = y.natAbs := by unfold absI; split <;> omega
                rw [ex] at hAx
                rw [ey] at hAy
                have hb0 : (0 : Int) ≤ bn := by omega
                have hb1 : (bn : Int) < n := by omega
                have hbneg : ¬ ((bn : Int) < 0) := by omega
                by_cases hxy : x.natAbs < y.natAbs
                · have HN := Lib.hid (HB.out.less hm0 hp1 (by rw [← HX.out]; exact hx0) (by rw [← HX.out, ← hy]; exact hxy))
                  have hxy' : (x.natAbs : Int) < (y.natAbs : Int) := by omega
                  obtain ⟨X, hX⟩ : ∃ X : Nat, X = x.natAbs := ⟨_, rfl⟩
                  obtain ⟨Y, hY⟩ : ∃ Y : Nat, Y = y.natAbs := ⟨_, rfl⟩
                  rw [← hX] at hAx hxy'
                  rw [← hY] at hAy hxy'
                  have HAX := Lib.hid hAx
                  have HAY := Lib.hid hAy
                  clear hx0 hy ex ey hxy hX hY hAx hAy hxb hyb hm0
                  go_wp2_with fail
                  go_quiet (first | (go_at_call 20; refine Calls.quiet_of_same ((HAX.out _).mono (fun e w' h => ⟨h.1, h.2.symm⟩))) | (go_at_call 20; refine Calls.quiet_of_same ((HAY.out _).mono (fun e w' h => ⟨h.1, h.2.symm⟩))))
                  have hbe := below_trans hbel (below_drewN' wr nq)
                  go_wp2_with fail
                  go_roundg (n - p)
                  case measure => omega
                  case rel => exact ⟨p + 1, p, many + 1, by omega, by omega, by omega, rfl, rfl, by go_num, HN, hbe⟩
                · have HN := Lib.hid (HB.out.more hm0 hp1 (by rw [← HX.out]; exact hx0) (by rw [← HX.out, ← hy]; exact hxy))
                  have hxy' : ¬ (x.natAbs : Int) < (y.natAbs : Int) := by omega
                  obtain ⟨X, hX⟩ : ∃ X : Nat, X = x.natAbs := ⟨_, rfl⟩
                  obtain ⟨Y, hY⟩ : ∃ Y : Nat, Y = y.natAbs := ⟨_, rfl⟩
                  rw [← hX] at hAx hxy'
                  rw [← hY] at hAy hxy'
                  have HAX := Lib.hid hAx
                  have HAY := Lib.hid hAy
                  clear hx0 hy ex ey hxy hX hY hAx hAy hxb hyb hm0
                  go_wp2_with fail
                  go_quiet (first | (go_at_call 20; refine Calls.quiet_of_same ((HAX.out _).mono (fun e w' h => ⟨h.1, h.2.symm⟩))) | (go_at_call 20; refine Calls.quiet_of_same ((HAY.out _).mono (fun e w' h => ⟨h.1, h.2.symm⟩))))
                  have hbe := below_trans hbel (below_drewN' wr nq)
                  go_wp2_with fail
                  go_roundg (n - p)
                  case measure => omega
                  case rel => exact ⟨p + 1, bn, many + 1, by omega, by omega, by omega, rfl, rfl, by go_num, HN, hbe⟩
          · obtain rfl : n = p := by omega
            have hm0 : many ≠ 0 := fun e => HS.out.core.some hlt HDET.out (fun a h1 h2 => (HB.out.none e).2 a h1 h2)
            obtain ⟨bn, hbn, hbc, hbp, hbne, hbmin, hbone, hbtwo⟩ := HB.out.one hm0
            subst hbn
            have HBN := Lib.hid (show _ ∧ _ ∧ _ ∧ _ from ⟨hbne, hbmin, hbone, hbtwo⟩)
            clear hbne hbmin hbone hbtwo HB hm0
            obtain ⟨gb, rb, fhb, fvb, _, _, _⟩ := HM1.out.at hbp hlt
            obtain ⟨gc, rc, fhc, fvc, _, _, _⟩ := HM1.out.at hlt hlt
            have ffb := (HM1.out.head hbp).2
            have ffc := (HM1.out.head hlt).2
            have hst2 : (wr.setCell ⟨Gk, bn, none⟩ (.slice (some ⟨gc, 0, none⟩) n rc)).cell? ⟨Gk, c, none⟩ = some (.slice (some ⟨gc, 0, none⟩) n rc) := by
              by_cases h : bn = c
              · subst h; exact World.cell?_setCell_same' _ _ _ (by rw [fhb]; rfl)
              · rw [World.cell?_setCell_other]
                · exact fhc
                · intro he; injection he with he1 he2; omega
            have hm2 := HM1.out.swap hbp hlt
            rw [fvb, fvc] at hm2
            have HS2 := Lib.hid (HS.out.core.swap hlt hbc hbp)
            rw [← fn_swapR HM1.out.sq hbp hlt] at HS2
            have hpv : fn (swapL T bn c) c c = fn T bn c := by rw [fn_swapL HM1.out.sq hbp hlt, sw_last]
            have hoth : ∀ a, c < a → fn (swapL T bn c) a c = if a = bn then fn T c c else fn T a c := fun a ha => by
              rw [fn_swapL HM1.out.sq hbp hlt]
              unfold sw
              by_cases h1 : a = bn
              · rw [if_pos h1, if_pos h1]
              · rw [if_neg h1, if_neg h1, if_neg (by omega)]
            have HPV := Lib.hid hpv
            have HOT := Lib.hid hoth
            have hb0 : (0 : Int) ≤ bn := by omega
            have hb1 : (bn : Int) < n := by omega
            clear fvb fvc hpv hoth
            have HM2 := Lib.hid hm2
            clear hm2
            go_upto_region 18 with (fail)
            generalize ((wr.setCell ⟨Gk, bn, none⟩ (.slice (some ⟨gc, 0, none⟩) n rc)).setCell ⟨Gk, c, none⟩ (.slice (some ⟨gb, 0, none⟩) n rb)) = W2 at *
            obtain ⟨T2, hT2⟩ : ∃ T2, T2 = swapL T bn c := ⟨_, rfl⟩
            generalize swapVs vs bn c = vs2 at *
            rw [← hT2] at HM2 HS2 HPV HOT
            obtain ⟨gp, rp, fhp, _, _, fep, _⟩ := HM2.out.at hlt hlt
            obtain ⟨d, hd⟩ : ∃ d, d = fn T2 c c := ⟨_, rfl⟩
            rw [← hd] at fep
            have HD := Lib.hid hd
            have hdne : d ≠ 0 := by rw [hd, HPV.out]; exact HBN.out.1
            have hdw := HS2.out.wide c c (Nat.le_refl c) hlt hlt
            rw [← hd] at hdw
            have hdww := Wc_le c
            clear hd hT2 fhb fhc ffb ffc HM1 HM hbel hst2
            by_cases hm1 : many = 1
            · subst hm1
              have hz : ∀ a, c < a → a < n → fn T2 a c = 0 := fun a h1 h2 => by
                rw [HOT.out a h1]
                by_cases hab : a = bn
                · rw [if_pos hab]; exact HBN.out.2.2.1 rfl c (Nat.le_refl c) hlt (by omega)
                · rw [if_neg hab]; exact HBN.out.2.2.1 rfl a (by omega) h2 hab
              have HZ := Lib.hid hz
              clear hz
              by_cases hneg : d < 0
              · have HG := Lib.hid (HS2.out.neg hlt HZ.out (by rw [← HD.out]; exact hneg))
                go_wp2_with fail
                clear fhp fep
                go_loopg [13] (n + 1) (fun g i wr => ∃ (j : Nat) (T' : List (List Int)), j ≤ n ∧ n - j < g ∧ i = .int .i64 j ∧ HMat w wr Gk n capk vs2 T' ∧ LessTo T2 T' n c c 2 j)
                case atStart => exact ⟨0, T2, by omega, by omega, rfl, HM2.out, LessTo.start⟩
                case round =>
                  obtain ⟨j, T', hj, hgj, rfl, hm, hl⟩ := hrel
                  have HM3 := Lib.hid hm
                  have HL3 := Lib.hid hl
                  clear hm hl
                  by_cases hjl : j < n
                  · obtain ⟨g1, r1, fh1, _, ff1, fe1, hst1⟩ := HM3.out.at hlt hjl
                    rw [HL3.out.here hlt hjl] at fe1
                    have hxw := HS2.out.wide c j (Nat.le_refl c) hlt hjl
                    obtain ⟨x, hx⟩ : ∃ x, x = fn T2 c j := ⟨_, rfl⟩
                    rw [← hx] at fe1 hxw
                    have hwn : IntKind.i64.wrap (-x) = -x := IntWalk.i64_in _ (by omega)
                    have hj0 : (0 : Int) ≤ j := by omega
                    have hj1 : (j : Int) < n := by omega
                    have HST := Lib.hid (hst1 (-x))
                    have HN := Lib.hid (HL3.out.next HM3.out.sq hlt hjl (-x) (by rw [hx]; omega))
                    clear hx hst1
                    go_wp2_with fail
                    go_still_tail 14, (by kernel_rfl)
                    go_wp2_with fail
                    go_roundg (n - j)
                    case measure => omega
                    case rel => exact ⟨j + 1, _, by omega, by omega, by go_num, HST.out.call Cls.start, HN.out⟩
                  · obtain rfl : n = j := by omega
                    have HN := Lib.hid (HG.out.congr (N := fn T') (by omega) (fun a b ha hb => by
                      rw [HL3.out.over a b ha hb]
                      unfold setRow
                      by_cases h1 : a = c
                      · rw [if_pos h1, if_pos h1]; show fn T2 c b - 2 * fn T2 c b = -1 * fn T2 c b; omega
                      · rw [if_neg h1, if_neg h1]))
                    go_wp2_with fail
                    go_roundg (n - c)
                    case measure => omega
                    case rel => exact ⟨c + 1, T', vs2, by omega, by omega, by go_num, HM3.out, HN.out⟩
              · have HG := Lib.hid (HS2.out.pos hlt HZ.out (by rw [← HD.out]; omega))
                go_wp2_with fail
                go_roundg (n - c)
                case measure => omega
                case rel => exact ⟨c + 1, T2, vs2, by omega, by omega, by go_num, HM2.out, HG.out⟩
            · have hm1b : (many == 1) = false := by simp [hm1]
              have hdL : d.natAbs ≤ L := by rw [HD.out, HPV.out]; exact HS.out.least hbc hbp HBN.out.2.1 (HBN.out.2.2.2 hm1)
              obtain ⟨hel1, hel2⟩ := HS2.out.elim hn3 hlt (by rw [← HD.out]; exact hdne) (by rw [← HD.out]; exact hdL) HS.out.lmax
              have HE1 := Lib.hid hel1
              have HE2 := Lib.hid hel2
              rw [← HD.out] at HE2
              have hL0 : 0 < L := by omega
              have hde : (d == 0) = false := by simp [hdne]
              clear hel1 hel2 hm1 fhp fep HS HBN HOT HPV hdL
              go_wp2_with fail
              go_loopg [10] (n + 1) (fun g i wr => ∃ (p : Nat) (T' : List (List Int)), c + 1 ≤ p ∧ p ≤ n ∧ n - p < g ∧ i = .int .i64 p ∧ HMat w wr Gk n capk vs2 T' ∧ RowKit.Hid (∀ a b, a < n → b < n → fn T' a b = elimR (fn T2) c p a b))
              case atStart => exact ⟨c + 1, T2, Nat.le_refl _, by omega, by omega, by go_num, HM2.out, Lib.hid (fun a b _ _ => by rw [elimR_start])⟩
              case round =>
                obtain ⟨p, T3, hp1, hp2, hgp, rfl, hm3, HT3⟩ := hrel
                have HM3 := Lib.hid hm3
                clear hm3
                by_cases hpn : p < n
                · have hp0 : (0 : Int) ≤ p := by omega
                  have hpn' : (p : Int) < n := by omega
                  obtain ⟨gq, rq, fhq, _, _, feq, _⟩ := HM3.out.at hpn hlt
                  obtain ⟨gp, rp, fhp, _, _, fep, _⟩ := HM3.out.at hlt hlt
                  have e1 : fn T3 p c = fn T2 p c := by rw [HT3.out p c hpn hlt]; unfold elimR; rw [if_neg (by omega)]
                  have e2 : ∀ b, b < n → fn T3 c b = fn T2 c b := fun b hb => by rw [HT3.out c b hlt hb]; unfold elimR; rw [if_neg (by omega)]
                  rw [e1] at feq
                  rw [e2 c hlt, ← HD.out] at fep
                  have hxw := HS2.out.wide p c (by omega) hpn hlt
                  obtain ⟨x, hx⟩ : ∃ x, x = fn T2 p c := ⟨_, rfl⟩
                  rw [← hx] at feq hxw
                  have hqb := natAbs_tdiv_le' x d
                  obtain ⟨q, hq⟩ : ∃ q, q = x.tdiv d := ⟨_, rfl⟩
                  have hqq : x.tdiv d = q := hq.symm
                  rw [← hq] at hqb
                  have hwq : IntKind.i64.wrap q = q := IntWalk.i64_in _ (by omega)
                  have hE2 := fun b (hb : b < n) => HE2.out p b (by omega) hpn hb
                  rw [← hx, ← hq] at hE2
                  have HE3 := Lib.hid hE2
                  have HEE := Lib.hid (show q = (fn T2 p c).tdiv (fn T2 c c) by rw [hq, hx, HD.out])
                  have HE21 := Lib.hid (show fn T3 p c = fn T2 p c ∧ ∀ b, b < n → fn T3 c b = fn T2 c b from ⟨e1, e2⟩)
                  clear hq hx hE2 e1 e2
                  go_wp2_with fail
                  go_quiet (fail)
                  have HM4 := Lib.hid (HM3.out.call (below_drewN' wr nq))
                  clear fhq feq fhp fep
                  go_wp2_with fail
                  go_loopg [12] (n + 1) (fun g j wr => ∃ (l : Nat) (T4 : List (List Int)), l ≤ n ∧ n - l < g ∧ j = .int .i64 l ∧ HMat w wr Gk n capk vs2 T4 ∧ LessTo T3 T4 n p c q l)
                  case atStart => exact ⟨0, T3, by omega, by omega, rfl, HM4.out, LessTo.start⟩
                  case round =>
                    obtain ⟨l, T4, hl1, hgl, rfl, hm4, hl4⟩ := hrel
                    have HM5 := Lib.hid hm4
                    have HL5 := Lib.hid hl4
                    clear hm4 hl4
                    by_cases hln : l < n
                    · obtain ⟨g1, r1, fh1, _, ff1, fe1, hst1⟩ := HM5.out.at hpn hln
                      obtain ⟨g2, r2, fh2, _, ff2, fe2, _⟩ := HM5.out.at hlt hln
                      have ex1 : fn T4 p l = fn T2 p l := by rw [HL5.out.here hpn hln, HT3.out p l hpn hln]; unfold elimR; rw [if_neg (by omega)]
                      have ex2 : fn T4 c l = fn T2 c l := by rw [HL5.out.here hlt hln, HE21.out.2 l hln]
                      rw [ex1] at fe1
                      rw [ex2] at fe2
                      obtain ⟨k1, k2⟩ := HE3.out l hln
                      have hNX := HL5.out.next HM5.out.sq hpn hln (fn T2 p l - q * fn T2 c l) (by rw [← ex1, ← ex2, HL5.out.here hpn hln, HL5.out.here hlt hln])
                      obtain ⟨u, hu⟩ : ∃ u, u = fn T2 p l := ⟨_, rfl⟩
                      obtain ⟨v, hv⟩ : ∃ v, v = fn T2 c l := ⟨_, rfl⟩
                      rw [← hu, ← hv] at k2 hNX
                      rw [← hv] at k1 fe2
                      rw [← hu] at fe1
                      obtain ⟨z, hz⟩ : ∃ z, z = q * v := ⟨_, rfl⟩
                      rw [← hz] at k1 k2 hNX
                      have hzz : q * v = z := hz.symm
                      have hw1 : IntKind.i64.wrap z = z := IntWalk.i64_in _ (by omega)
                      have hw2 : IntKind.i64.wrap (u - z) = u - z := IntWalk.i64_in _ (by omega)
                      have hl0 : (0 : Int) ≤ l := by omega
                      have hl1' : (l : Int) < n := by omega
                      have HST := Lib.hid (hst1 (u - z))
                      have HN := Lib.hid hNX
                      clear hu hv hz hst1 hNX ex1 ex2
                      go_wp2_with fail
                      go_still_tail 23, (by kernel_rfl)
                      go_wp2_with fail
                      go_roundg (n - l)
                      case measure => omega
                      case rel => exact ⟨l + 1, _, by omega, by omega, by go_num, HST.out.call Cls.start, HN.out⟩
                    · obtain rfl : n = l := by omega
                      have HN := Lib.hid (show ∀ a b, a < n → b < n → fn T4 a b = elimR (fn T2) c (p + 1) a b from fun a b ha hb => by
                        rw [HL5.out.over a b ha hb, elimR_step (fn T2) (by omega)]
                        unfold setRow
                        by_cases h1 : a = p
                        · rw [if_pos h1, if_pos h1]
                          show fn T3 p b - q * fn T3 c b = elimR (fn T2) c p p b - (fn T2 p c).tdiv (fn T2 c c) * elimR (fn T2) c p c b
                          rw [HT3.out p b hpn hb, HT3.out c b hlt hb, HEE.out]
                        · rw [if_neg h1, if_neg h1]; exact HT3.out a b ha hb)
                      go_wp2_with fail
                      go_roundg (n - p)
                      case measure => omega
                      case rel => exact ⟨p + 1, T4, by omega, by omega, by omega, by go_num, HM5.out, HN⟩
                · obtain rfl : n = p := by omega
                  have HN := Lib.hid (HE1.out.congr hlt (fun a b ha hb => HT3.out a b ha hb))
                  go_wp2_with fail
                  go_roundg L
                  case measure => omega
                  case rel => exact ⟨L - 1, T3, vs2, by omega, HM3.out, HN.out⟩
    · obtain rfl : n = c := by omega
      have HU := Lib.hid (HS.out.up hn0)
      have hw1 : IntKind.i64.wrap ((n : Int) - 2) = (n : Int) - 2 := IntWalk.i64_in _ (by omega)
      clear HS
      go_wp2_with fail
      go_loopg [14] (n + 1) (fun g i wr => ∃ (r : Nat) (T : List (List Int)), r + 1 ≤ n ∧ r < g ∧ i = .int .i64 ((r : Int) - 1) ∧ HMat w wr Gk n capk vs T ∧ HhUp n r (fn rows) (fn T))
      case atStart => exact ⟨n - 1, T, by omega, by omega, by rw [show (((n - 1 : Nat)) : Int) - 1 = (n : Int) - 2 by omega], HM.out, HU.out⟩
      case round =>
        obtain ⟨r, T, hr1, hgr, rfl, hM, hS⟩ := hrel
        clear HM HU
        have HM := Lib.hid hM
        have HS := Lib.hid hS
        clear hM hS
        by_cases hr0 : r = 0
        · subst hr0
          have HF := Lib.hid HS.out.form
          have hneg : ¬ ((0 : Int) ≤ ((0 : Nat) : Int) - 1) := by omega
          go_wp2_with fail
          go_ret
          exact ⟨⟨Gk, capk, rfl, vs, T, HM.out.own, HM.out.sq, HF.out⟩, HM.out.bel⟩
        · obtain ⟨s, rfl⟩ : ∃ s, r = s + 1 := ⟨r - 1, by omega⟩
          have hsI : (((s + 1 : Nat)) : Int) - 1 = s := by omega
          rw [hsI]
          have hs0 : (0 : Int) ≤ s := by omega
          have hs1 : (s : Int) < n := by omega
          have hsn : s < n := by omega
          have HR0 := Lib.hid (HS.out.row (by omega))
          have hws : IntKind.i64.wrap ((s : Int) + 1) = (s : Int) + 1 := IntWalk.i64_in _ (by omega)
          have hwm : IntKind.i64.wrap ((s : Int) - 1) = (s : Int) - 1 := IntWalk.i64_in _ (by omega)
          clear hr0 hsI HS
          go_wp2_with fail
          go_loopg [15] (n + 1) (fun g i wr => ∃ (c : Nat) (T : List (List Int)), s + 1 ≤ c ∧ c ≤ n ∧ n - c < g ∧ i = .int .i64 c ∧ HMat w wr Gk n capk vs T ∧ HhRow n s c (fn rows) (fn T))
          case atStart => exact ⟨s + 1, T, Nat.le_refl _, by omega, by omega, by simp, HM.out, HR0.out⟩
          case round =>
            obtain ⟨c, T3, hc1, hc2, hgc, rfl, hM, hS⟩ := hrel
            clear HM HR0
            have HM3 := Lib.hid hM
            have HR3 := Lib.hid hS
            clear hM hS
            by_cases hcn : c < n
            · have hc0 : (0 : Int) ≤ c := by omega
              have hcn' : (c : Int) < n := by omega
              obtain ⟨gq, rq, fhq, _, _, feq, _⟩ := HM3.out.at hsn hcn
              obtain ⟨gp, rp, fhp, _, _, fep, _⟩ := HM3.out.at hcn hcn
              have hmid := HR3.out.mid c hcn
              have hdb := diag_bd HR3.out.like HR3.out.low HR3.out.mid hG0 hcn
              have hrw := HR3.out.row c hcn
              have hrb : rbH s c ≤ 1407374883553280000 := by unfold rbH; split; exact Wc_le s; omega
              obtain ⟨hn1', hn2'⟩ := HR3.out.next hn3 (by omega) hcn hG0
              obtain ⟨x, hx⟩ : ∃ x, x = fn T3 s c := ⟨_, rfl⟩
              obtain ⟨d, hd⟩ : ∃ d, d = fn T3 c c := ⟨_, rfl⟩
              rw [← hx] at feq hrw hn1' hn2'
              rw [← hd] at fep hmid hdb hn1' hn2'
              have hF := fun W => HFloor_any x d W hmid hdb (by omega)
              obtain ⟨f1, _, _, _⟩ := floor_abs (x := x) hmid
              obtain ⟨q, hq⟩ : ∃ q, q = x / d := ⟨_, rfl⟩
              rw [← hq] at hF hn1' hn2' f1
              have HFF := Lib.hid hF
              have HN1 := Lib.hid hn1'
              have HN2 := Lib.hid hn2'
              clear hx hd hq hn1' hn2' hF hrb
              go_wp2_with fail
              go_quiet (first | (go_at_call 21; refine Calls.quiet_of_same ((HFF.out _).mono (fun e w' h => ⟨h.1, h.2.symm⟩))))
              have HM4 := Lib.hid (HM3.out.call (below_drewN' wr nq))
              clear fhq feq fhp fep
              go_wp2_with fail
              go_loopg [17] (n + 1) (fun g j wr => ∃ (l : Nat) (T4 : List (List Int)), l ≤ n ∧ n - l < g ∧ j = .int .i64 l ∧ HMat w wr Gk n capk vs T4 ∧ LessTo T3 T4 n s c q l)
              case atStart => exact ⟨0, T3, by omega, by omega, rfl, HM4.out, LessTo.start⟩
              case round =>
                obtain ⟨l, T4, hl1, hgl, rfl, hm4, hl4⟩ := hrel
                have HM5 := Lib.hid hm4
                have HL5 := Lib.hid hl4
                clear hm4 hl4
                by_cases hln : l < n
                · obtain ⟨g1, r1, fh1, _, ff1, fe1, hst1⟩ := HM5.out.at hsn hln
                  obtain ⟨g2, r2, fh2, _, ff2, fe2, _⟩ := HM5.out.at hcn hln
                  rw [HL5.out.here hsn hln] at fe1
                  rw [HL5.out.here hcn hln] at fe2
                  obtain ⟨k1, k2⟩ := HN2.out l hln
                  have hNX := HL5.out.next HM5.out.sq hsn hln (fn T3 s l - q * fn T3 c l) rfl
                  have hrl := HR3.out.row l hln
                  obtain ⟨u, hu⟩ : ∃ u, u = fn T3 s l := ⟨_, rfl⟩
                  obtain ⟨v, hv⟩ : ∃ v, v = fn T3 c l := ⟨_, rfl⟩
                  rw [← hu, ← hv] at k2 hNX
                  rw [← hv] at k1 fe2
                  rw [← hu] at fe1
                  obtain ⟨z, hz⟩ : ∃ z, z = q * v := ⟨_, rfl⟩
                  rw [← hz] at k1 k2 hNX
                  have hzz : q * v = z := hz.symm
                  have hw1' : IntKind.i64.wrap z = z := IntWalk.i64_in _ (by omega)
                  have hw2 : IntKind.i64.wrap (u - z) = u - z := IntWalk.i64_in _ (by omega)
                  have hl0 : (0 : Int) ≤ l := by omega
                  have hl1' : (l : Int) < n := by omega
                  have HST := Lib.hid (hst1 (u - z))
                  have HN := Lib.hid hNX
                  clear hu hv hz hst1 hNX hrl
                  go_wp2_with fail
                  go_still_tail 23, (by kernel_rfl)
                  go_wp2_with fail
                  go_roundg (n - l)
                  case measure => omega
                  case rel => exact ⟨l + 1, _, by omega, by omega, by go_num, HST.out.call Cls.start, HN.out⟩
                · obtain rfl : n = l := by omega
                  have HN := Lib.hid (HN1.out.congr hsn (by omega) (fun a b ha hb => HL5.out.over a b ha hb))
                  go_wp2_with fail
                  go_roundg (n - c)
                  case measure => omega
                  case rel => exact ⟨c + 1, T4, by omega, by omega, by omega, by go_num, HM5.out, HN.out⟩
            · obtain rfl : n = c := by omega
              have HO := Lib.hid HR3.out.over
              go_wp2_with fail
              go_roundg (s + 1)
              case measure => omega
              case rel => exact ⟨s, T3, by omega, by omega, by simp, HM3.out, HO.out⟩
end Go.Proofs.YtijlhdgagaehaaaDoor
