/- It proves that rankmerelaw4.SmithDivides, called with any list of lists of integers, any three integers and any boolean, returns true, and leaves its arguments as they were. There are no conditions. -/
import Derived.Test.YtllomialkiaccaaSmFact
import Derived.Test.YtllomialkiaccaaHRows
import Derived.Test.YtllomialkiaccaaRCopy
import Derived.Test.YtllomialkiaccaaRAbs
import Derived.Test.YtllomialkiaccaaSqOf
import Derived.Test.YtllomialkiaccaaLawIn
import Derived.Test.YtllomialkiaccaaPut
import Derived.Test.YtllomialkiaccaaOpen
import Derived.Test.YtllomialkiaccaaSmTools
import Derived.StillTailTactics
import Derived.BigQuiet
import Derived.Deep.QuietTactic
import Derived.ProofKit
import Derived.OpenShut
import Derived.ShutString
import Derived.ChangeOld
import Derived.Lib.SmallJoins
namespace Go.Proofs.Ytllomialkiaccaa.SmithDividesP
open Go.ChangeShapes Go.WideShapes Go.ChangeAt Go.RowKit Go.Joins
open Go.ChangeMaps (open_string shut_string)
open Go.Proofs.Ytllomialkiaccaa Go.Proofs.Ytllomialkiaccaa.SmT
set_option linter.unusedVariables false
set_option linter.unusedSimpArgs false

theorem divides_bad (a : Option Addr) (n cap : Nat) (rows : List (List Int)) (i j k : Int) (turn : Bool) (w : World) (hr : RowsAt w a n rows) (hcap : n ≤ cap) (hs : Small n rows) (he : herErr rows ≠ 0) :
    Calls Try.prog 3 #[.slice a n cap, .int .i64 i, .int .i64 j, .int .i64 k, .bool turn] w fun e w' => e = .returned (.bool true) ∧ Below w.heap.size w w' := by
  have hF := fun w (h : RowsAt w a n rows) => Parts_bad a n cap rows w h hcap hs he
  rw [errV_pos he] at hF
  generalize herErr rows = e at *
  have HR := Lib.hid hr
  clear hr he hs
  go_enter Try.func3, Try.ntmps3
  go_wp2_with fail
  go_at_call 6
  refine (smithFact_any _).mono ?_
  rintro e w1 ⟨rfl, hb⟩
  go_wp2_with fail
  go_at_call 7
  refine (hF _ (HR.out.call hb)).mono ?_
  rintro e w2 ⟨rfl, hb2⟩
  go_wp2_with fail
  go_ret
  exact ⟨rfl, below_trans hb hb2⟩

set_option maxRecDepth 100000 in
set_option maxHeartbeats 4000000 in
theorem divides_good (a : Option Addr) (n cap : Nat) (rows : List (List Int)) (i j k : Int) (turn : Bool) (w : World) (hr : RowsAt w a n rows) (hcap : n ≤ cap) (hs : Small n rows) (he : herErr rows = 0) :
    Calls Try.prog 3 #[.slice a n cap, .int .i64 i, .int .i64 j, .int .i64 k, .bool turn] w fun e w' => e = .returned (.bool true) ∧ Below w.heap.size w w' := by
  have hk := herErr_good hr.1 he
  have hF := Lib.hid (fun w (h : RowsAt w a n rows) => Parts_good a n cap rows w h hcap hs he)
  have hn1 := hk.pos
  have hn3 := hk.le
  obtain ⟨b, off, rfl, hb0⟩ := hr.some hn1
  have hbd := hk.bd
  have hD := Lib.hid (fun w (h : RowsAt w (some ⟨b, off, none⟩) n rows) => RDet_any n (some ⟨b, off, none⟩) cap rows w (by omega) hcap hk.sq h)
  rw [detN_G, wrap_in (by omega) (by omega)] at hD
  have HR := Lib.hid hr
  have HK := Lib.hid hk
  have hpa := prod_all hk
  obtain ⟨d, hd⟩ : ∃ d, d = G (-1) n (fn rows) := ⟨_, rfl⟩
  rw [← hd] at hD hbd hpa
  have hdn : (absI d) = prodTo n (fn rows) n := by rw [hpa]; unfold absI; split <;> omega
  have HDN := Lib.hid hdn
  have HDD := Lib.hid hd
  obtain ⟨L, hL⟩ : ∃ L, L = partsTo n (fn rows) n := ⟨_, rfl⟩
  have hLl : L.length = n := by rw [hL, partsTo_len]
  have hLr : ∀ s, s < n → 1 ≤ L.getD s 0 ∧ L.getD s 0 ≤ 48000 := fun s hs => by rw [hL]; exact parts_at hk hs
  have hLd : ∀ s, s + 1 < n → L.getD s 0 ∣ L.getD (s + 1) 0 := fun s hs => by rw [hL]; exact fac_dvd hk hs
  have hPs : ∀ s, prodTo n (fn rows) (s + 1) = prodTo n (fn rows) s * L.getD s 0 := fun s => by rw [hL]; rfl
  rw [← hL] at hF
  have HL := Lib.hid hL
  have HLL := Lib.hid hLl
  have HLR := Lib.hid hLr
  have HLD := Lib.hid hLd
  have HPS := Lib.hid hPs
  clear hr hs he hk hd hdn hpa hL hLl hLr hLd hPs
  go_enter Try.func3, Try.ntmps3
  go_wp2_with fail
  go_at_call 6
  refine (smithFact_any _).mono ?_
  rintro e w1 ⟨rfl, hb⟩
  go_wp2_with fail
  go_at_call 7
  refine (hF.out _ (HR.out.call hb)).mono ?_
  rintro e w2 ⟨⟨vl, rfl, hO⟩, hb2⟩
  have hB2 := below_trans hb hb2
  obtain ⟨va, vcap, rfl, _, _, _, hI⟩ := hO.shape
  rw [HLL.out] at hI ⊢
  have HI := Lib.hid hI
  obtain ⟨bl, ol, rfl, hbl, _⟩ := hI.some hn1
  clear hb hb2 hF hO hI
  go_wp2_with fail
  go_loopg [15, 16] (n + 1) (fun g s i wr => ∃ q : Nat, q ≤ n ∧ n - q < g ∧ s = .int .i64 (prodTo n (fn rows) q) ∧ i = .int .i64 q ∧ Below w2.heap.size w2 wr)
  case atStart => exact ⟨0, by omega, by omega, rfl, rfl, Below.refl _ _⟩
  case round =>
    obtain ⟨q, hq, hg, rfl, rfl, hbel⟩ := hrel
    obtain ⟨hIl, hIc⟩ := HI.out.call hbel
    by_cases hlt : q < n
    · obtain ⟨b1, o1, e1, c1⟩ := hIc q hlt
      obtain ⟨rfl, rfl⟩ : bl = b1 ∧ ol = o1 := by simpa using e1
      have hxb := HLR.out q hlt
      obtain ⟨x, hx⟩ : ∃ x, x = L.getD q 0 := ⟨_, rfl⟩
      have hpb := prod_bd HK.out hq
      have hpb2 := prod_bd HK.out (s := q + 1) (by omega)
      have hps := HPS.out q
      rw [← hx] at c1 hxb hps
      obtain ⟨p, hp⟩ : ∃ p, p = prodTo n (fn rows) q := ⟨_, rfl⟩
      rw [← hp] at hpb hps ⊢
      rw [hps] at hpb2
      have hwp : IntKind.i64.wrap (p * x) = p * x := IntWalk.i64_in _ (by omega)
      have HPX := Lib.hid hps
      have hin : inB x 1 100000 = true := inB_yes hxb.1 (by omega)
      have hq0 : (0 : Int) ≤ q := by omega
      have hq1 : (q : Int) < n := by omega
      have hIN := Lib.hid (fun W => in_any x 1 100000 W)
      rw [hin] at hIN
      have HX := Lib.hid hx
      cases q with
      | zero =>
        rw [Nat.add_zero] at c1
        have hq1 : (0 : Int) < n := by omega
        rw [show ((0 : Nat) : Int) = 0 from rfl]
        clear hIl hIc e1 hin hps hpb2 hpb hp hx hxb
        go_wp2_with fail
        go_quiet (first | (go_at_call 8; refine Calls.quiet_of_same ((hIN.out _).mono (fun e w' h => ⟨h.1, h.2.symm⟩))))
        have hbe := below_trans hbel (below_drewN wr nq)
        go_wp2_with fail
        go_roundg n
        case measure => omega
        case rel => exact ⟨1, by omega, by omega, by rw [HPX.out], rfl, hbe⟩
      | succ t =>
        obtain ⟨b2, o2, e2, c2⟩ := hIc t (by omega)
        obtain ⟨rfl, rfl⟩ : bl = b2 ∧ ol = o2 := by simpa using e2
        have hyb := HLR.out t (by omega)
        have hdv := HLD.out t hlt
        rw [← HX.out] at hdv
        obtain ⟨y, hy⟩ : ∃ y, y = L.getD t 0 := ⟨_, rfl⟩
        rw [← hy] at c2 hyb hdv
        have hmod : x.tmod y = 0 := Int.tmod_eq_zero_of_dvd hdv
        have hy0 : (y == 0) = false := by simp; omega
        have hyne : y ≠ 0 := by omega
        have ht1 : ((t + 1 : Nat) : Int) - 1 = t := by omega
        have ht2 : IntKind.i64.wrap (((t + 1 : Nat) : Int) - 1) = t := by rw [ht1]; exact IntWalk.i64_in _ (by omega)
        have ht3 : (0 : Int) < ((t + 1 : Nat) : Int) := by omega
        have ht4 : (t : Int) < n := by omega
        have ht5 : (0 : Int) ≤ t := by omega
        obtain ⟨T, hT⟩ : ∃ T : Int, T = ((t + 1 : Nat) : Int) := ⟨_, rfl⟩
        have hTn : T.toNat = t + 1 := by omega
        have hT1 : T - 1 = t := by omega
        have hTw : IntKind.i64.wrap (T - 1) = t := by rw [hT1]; exact IntWalk.i64_in _ (by omega)
        have hTp : IntKind.i64.wrap (T + 1) = T + 1 := IntWalk.i64_in _ (by omega)
        rw [← hT] at hq0 hq1 ht3 ⊢
        have HT := Lib.hid hT
        clear hIl hIc e1 e2 hin hps hpb2 hpb hp hx hxb ht1 ht2 hT hyb hdv hy hT1
        go_wp2_with fail
        go_quiet (first | (go_at_call 8; refine Calls.quiet_of_same ((hIN.out _).mono (fun e w' h => ⟨h.1, h.2.symm⟩))))
        have hbe := below_trans hbel (below_drewN wr nq)
        go_wp2_with fail
        go_roundg (n - (t + 1))
        case measure => omega
        case rel => exact ⟨t + 1 + 1, by omega, by omega, by rw [HPX.out], by rw [HT.out]; go_num, hbe⟩
    · obtain rfl : q = n := by omega
      have hB3 := below_trans hB2 hbel
      have HI3 := Lib.hid (HI.out.call hbel)
      clear hIl hIc
      obtain ⟨w3, rfl⟩ : ∃ w3 : World, w3 = wr := ⟨_, rfl⟩
      go_wp2_with fail
      go_at_call 10
      refine (hD.out _ (HR.out.call hB3)).mono ?_
      rintro e w4 ⟨rfl, hb4⟩
      go_wp2_with fail
      go_at_call 9
      refine (RAbs_any _ _ (by omega) (by omega)).mono ?_
      rintro e w5 ⟨rfl, rfl⟩
      rw [HDN.out]
      have hB5 := below_trans hB3 hb4
      have HI5 := Lib.hid (HI3.out.call hb4)
      clear hB3 hb4 hbel HI HI3 hB2 hD
      go_wp2_with fail
      have hnw : IntKind.i64.wrap ((q : Int) - 1) = (q : Int) - 1 := IntWalk.i64_in _ (by omega)
      go_at_call 8
      refine (in_any _ _ _ _).mono ?_
      rintro e w6 ⟨rfl, rfl⟩
      cases hbi : inB i 0 ((q : Int) - 1)
      · go_wp2_with fail
        go_ret
        exact ⟨rfl, hB5⟩
      go_wp2_with fail
      go_at_call 8
      refine (in_any _ _ _ _).mono ?_
      rintro e w6 ⟨rfl, rfl⟩
      cases hbj : inB j 0 ((q : Int) - 1)
      · go_wp2_with fail
        go_ret
        exact ⟨rfl, hB5⟩
      by_cases hij : i = j
      · have hijb : (i == j) = true := by simp [hij]
        clear hij
        go_wp2_with fail
        go_ret
        exact ⟨rfl, hB5⟩
      have hijb : (i == j) = false := by simp [hij]
      go_wp2_with fail
      go_at_call 8
      refine (in_any _ _ _ _).mono ?_
      rintro e w6 ⟨rfl, rfl⟩
      cases hbk : inB k (-20) 20
      · go_wp2_with fail
        go_ret
        exact ⟨rfl, hB5⟩
      obtain ⟨hi0, hi1⟩ := inB_true hbi
      obtain ⟨hj0, hj1⟩ := inB_true hbj
      obtain ⟨hk0, hk1⟩ := inB_true hbk
      obtain ⟨p, rfl⟩ := Int.eq_ofNat_of_zero_le hi0
      obtain ⟨r, rfl⟩ := Int.eq_ofNat_of_zero_le hj0
      have hp : p < q := by omega
      have hr : r < q := by omega
      have hp1 : (p : Int) < q := by omega
      have hr1 : (r : Int) < q := by omega
      have hpr : p ≠ r := by omega
      clear hbi hbj hbk hij hijb hnw
      go_wp2_with fail
      go_at_call 11
      refine (RCopy_any _ q _ rows _ (HR.out.call hB5) (by omega) hcap (fun k hk => by rw [HK.out.sq.2 k hk]; omega)).mono ?_
      rintro e w7 ⟨⟨vb, rfl, hcb⟩, hb7⟩
      obtain ⟨vsb, hvb⟩ := hcb.vals
      obtain ⟨Gb, capb, rfl, hcapb⟩ := hvb.isRows (by rw [HK.out.len]; omega)
      rw [HK.out.len] at hvb hcapb ⊢
      have HVB := Lib.hid hvb
      clear hcb hvb
      obtain ⟨w5, rfl⟩ : ∃ w5 : World, w5 = w4 := ⟨_, rfl⟩
      go_wp2_with fail
      go_loopg [18] (q + 1) (fun g i wr => ∃ (c : Nat) (A : List (List Int)), c ≤ q ∧ q - c < g ∧ i = .int .i64 c ∧ OwnRowsV wr w5.heap.size (.slice (some ⟨Gb, 0, none⟩) q capb) vsb A ∧ (Sq q A ∧ ∀ a b, a < q → b < q → fn A a b = opTo (fn rows) p r k turn c a b) ∧ Below w5.heap.size w5 wr)
      case atStart => exact ⟨0, rows, by omega, by omega, rfl, HVB.out, ⟨HK.out.sq, fun a b _ _ => by simp [opTo]⟩, hb7⟩
      case round =>
        obtain ⟨c, A, hc, hg, rfl, hA, hsA, hbel⟩ := hrel
        have HA := Lib.hid hA
        have HSA := Lib.hid hsA
        have hzr := hbel.size
        have hB8 := below_trans hB5 hbel
        clear hA hsA hb7
        by_cases hlt : c < q
        · have hc0 : (0 : Int) ≤ c := by omega
          have hc1 : (c : Int) < q := by omega
          cases turn
          · obtain ⟨gp, op, rp, hmp, hmpc, hbp⟩ := (HR.out.call hB8).at HK.out.sq hp hlt
            obtain ⟨gq, oq, rq, hmq, hmqc, hbq⟩ := (HR.out.call hB8).at HK.out.sq hr hlt
            have xb := HK.out.ent p c
            have yb := HK.out.ent r c
            obtain ⟨x, hx⟩ : ∃ x, x = fn rows p c := ⟨_, rfl⟩
            obtain ⟨y, hy⟩ : ∃ y, y = fn rows r c := ⟨_, rfl⟩
            rw [← hx] at hmpc xb
            rw [← hy] at hmqc yb
            have hky := bd_mul (a := k) (b := y) (B := 20) (C := 20) hk0 hk1 (by omega) (by omega)
            obtain ⟨hky1, hky2⟩ := hky
            obtain ⟨t, ht⟩ : ∃ t, t = k * y := ⟨_, rfl⟩
            rw [← ht] at hky1 hky2
            have HNX := Lib.hid (show x + t = fn rows p c + k * fn rows r c by rw [hx, ht, hy])
            have hw1 : k * y = t := ht.symm
            have hw2 : IntKind.i64.wrap t = t := IntWalk.i64_in _ (by omega)
            have hw3 : IntKind.i64.wrap (x + t) = x + t := IntWalk.i64_in _ (by omega)
            obtain ⟨g1, rc1', ha1, hg1, hg1z, hg1n, he1, hf1, hac1, hst1⟩ := HA.out.at HSA.out.1 hp hlt
            have HST := Lib.hid (hst1 (x + t))
            have z1 := World.block_lt_of_cell? _ _ hmp
            have z2 := World.block_lt_of_cell? _ _ ha1
            dsimp only at z1 z2
            clear hx hy ht hst1 he1
            go_wp2_with fail
            go_still_tail 22, (by kernel_rfl)
            go_wp2_with fail
            go_roundg (q - c)
            case measure => omega
            case rel => exact ⟨c + 1, _, by omega, by omega, by go_num, HST.out.call Cls.start, ⟨put_sq HSA.out.1 _ _ _, op_row HSA.out.1 hp hlt HNX.out HSA.out.2⟩, (hbel.setCell (p := ⟨g1, c, none⟩) hg1 _).trans Cls.start⟩
          · obtain ⟨gp, op, rp, hmp, hmpc, hbp⟩ := (HR.out.call hB8).at HK.out.sq hlt hp
            obtain ⟨gq, oq, rq, hmq, hmqc, hbq⟩ := (HR.out.call hB8).at HK.out.sq hlt hr
            obtain ⟨rfl, rfl, rfl⟩ : gp = gq ∧ op = oq ∧ rp = rq := by have := hmp.symm.trans hmq; simp at this; exact ⟨this.1.1, this.1.2, this.2⟩
            have xb := HK.out.ent c p
            have yb := HK.out.ent c r
            obtain ⟨x, hx⟩ : ∃ x, x = fn rows c p := ⟨_, rfl⟩
            obtain ⟨y, hy⟩ : ∃ y, y = fn rows c r := ⟨_, rfl⟩
            rw [← hx] at hmpc xb
            rw [← hy] at hmqc yb
            have hky := bd_mul (a := k) (b := y) (B := 20) (C := 20) hk0 hk1 (by omega) (by omega)
            obtain ⟨hky1, hky2⟩ := hky
            obtain ⟨t, ht⟩ : ∃ t, t = k * y := ⟨_, rfl⟩
            rw [← ht] at hky1 hky2
            have HNX := Lib.hid (show x + t = fn rows c p + k * fn rows c r by rw [hx, ht, hy])
            have hw1 : k * y = t := ht.symm
            have hw2 : IntKind.i64.wrap t = t := IntWalk.i64_in _ (by omega)
            have hw3 : IntKind.i64.wrap (x + t) = x + t := IntWalk.i64_in _ (by omega)
            obtain ⟨g1, rc1', ha1, hg1, hg1z, hg1n, he1, hf1, hac1, hst1⟩ := HA.out.at HSA.out.1 hlt hp
            have HST := Lib.hid (hst1 (x + t))
            have z1 := World.block_lt_of_cell? _ _ hmp
            have z2 := World.block_lt_of_cell? _ _ ha1
            dsimp only at z1 z2
            clear hx hy ht hst1 he1 hmq
            go_wp2_with fail
            go_still_tail 22, (by kernel_rfl)
            go_wp2_with fail
            go_roundg (q - c)
            case measure => omega
            case rel => exact ⟨c + 1, _, by omega, by omega, by go_num, HST.out.call Cls.start, ⟨put_sq HSA.out.1 _ _ _, op_col HSA.out.1 hp hlt HNX.out HSA.out.2⟩, (hbel.setCell (p := ⟨g1, p, none⟩) hg1 _).trans Cls.start⟩
        · obtain rfl : c = q := by omega
          have hra := HA.out.read
          rw [HSA.out.1.1] at hra
          have HRA := Lib.hid hra
          obtain ⟨hdet, hdv⟩ := op_like (M := fn rows) (k := k) hn3 hp hr hpr HSA.out.2
          have hkd : G (-1) c (fn A) ≠ 0 := by rw [hdet]; exact HK.out.det
          have hns := small_sq hn3 HSA.out.1
          have hpl : partsTo c (fn A) c = L := by rw [HL.out]; exact partsTo_congr (m := 0) hdv c (Nat.le_refl _)
          rcases some_err HK.out HSA.out.1 hkd with e0 | e0
          · have hIb := Lib.hid (Parts_good (some ⟨Gb, 0, none⟩) c capb A wr hra hcapb hns e0)
            rw [hpl] at hIb
            clear hra hdet hkd hns e0 hpl hdv
            go_wp2_with fail
            go_at_call 7
            refine (hIb.out).mono ?_
            rintro e w8 ⟨⟨v8, rfl, hO8⟩, hb8⟩
            obtain ⟨va8, cap8, rfl, _, _, _, hI8⟩ := hO8.shape
            rw [HLL.out] at hI8 ⊢
            have hEE := Lib.hid (EInts_like _ (some ⟨bl, ol, none⟩) c cap8 vcap L w8 hI8 (HI5.out.call (below_trans hbel hb8)) (by omega))
            clear hO8 hI8 hIb
            go_wp2_with fail
            go_at_call 13
            refine (hEE.out).mono ?_
            rintro e w9 ⟨rfl, hb9⟩
            go_wp2_with fail
            go_ret
            exact ⟨rfl, below_trans hB8 (below_trans hb8 hb9)⟩
          · have hIb := Lib.hid (Parts_bad (some ⟨Gb, 0, none⟩) c capb A wr hra hcapb hns (by omega))
            have hHb := Lib.hid (fun W (hb : Below wr.heap.size wr W) => HRows_any (some ⟨Gb, 0, none⟩) c capb A W (HRA.out.call hb) hcapb hns)
            rw [e0, errV_pos (by decide)] at hIb
            rw [e0] at hHb
            clear hra hdet hkd hns e0 hpl hdv
            go_wp2_with fail
            go_at_call 7
            refine (hIb.out).mono ?_
            rintro e w8 ⟨rfl, hb8⟩
            go_wp2_with fail
            go_at_call 12
            refine (hHb.out _ hb8).mono ?_
            rintro e w9 ⟨rfl, hb9⟩
            go_wp2_with fail
            go_ret
            exact ⟨rfl, below_trans hB8 (below_trans hb8 hb9)⟩

theorem SmithDivides_any (a : Option Addr) (n cap : Nat) (rows : List (List Int)) {w' : World} (hr : RowsAt w' a n rows) (hcap : n ≤ cap) (hs : Small n rows) (i j k : Int) (turn : Bool) (w : World) (e : w' = w) :
    Calls Try.prog 3 #[.slice a n cap, .int .i64 i, .int .i64 j, .int .i64 k, .bool turn] w fun e w' => e = .returned (.bool true) ∧ Below w.heap.size w w' := by
  subst e
  by_cases he : herErr rows = 0
  · exact divides_good a n cap rows i j k turn w' hr hcap hs he
  · exact divides_bad a n cap rows i j k turn w' hr hcap hs he
theorem frame_own : ownKnob Try.prog.godebug = none := by kernel_rfl
theorem frame_laid : laidOutB Try.prog = true := by kernel_rfl
set_option maxRecDepth 100000 in
theorem frame_lifted (os : Os) (started : os.Started) (H : Type) (enc : TypeId × Value → H) :
    ReturnsInHanded {} Try.checked os 3 .any (Rows.smithDividesSpec.pre6 enc Try.prog Try.f3 Rows.smithDividesRow.domain false) (Rows.smithDividesSpec.post enc Try.prog Try.f3 false true false false) := by
  refine returnsInHanded_of_change (C := Try.checked) frame_own started (by kernel_rfl) Try.func3
    (ChangeSpec.witness6 (enc := enc) (C := Try.checked) false ⟨#[], #[.slice none 0 0, .int .i64 0, .int .i64 0, .int .i64 0, .bool false], []⟩ 8 (by kernel_rfl) (by kernel_rfl) (by kernel_rfl) (by kernel_rfl)) ?_
  intro W base args ds gs before hval0 hW hcnd _
  have hval : ∀ (j : Nat) t v, Try.f3.params[j]? = some t → args[j]? = some v → Value.okWide Try.prog W .any base t v := hval0
  have hW' := hW
  obtain ⟨p, q, hA0, hV, rfl, hfz, hnd⟩ := hW
  have hA : DataW.TrodAll enc Try.prog W 0 (fun _ => true) true Try.f3.params.toList args.toList ds p := hA0
  rw [Try.params3] at hA hval
  obtain ⟨v0, vs0, d0, ds0, p0, q0, hargs, rfl, rfl, h0, r0⟩ := trodAll_cons hA
  obtain ⟨v1, vs1, d1, ds1, p1, q1, rfl, rfl, rfl, h1, r1⟩ := trodAll_cons r0
  obtain ⟨v2, vs2, d2, ds2, p2, q2, rfl, rfl, rfl, h2, r2⟩ := trodAll_cons r1
  obtain ⟨v3, vs3, d3, ds3, p3, q3, rfl, rfl, rfl, h3, r3⟩ := trodAll_cons r2
  obtain ⟨v4, vs4, d4, ds4, p4, q4, rfl, rfl, rfl, h4, r4⟩ := trodAll_cons r3
  obtain ⟨rfl, rfl, rfl⟩ := trodAll_nil r4
  obtain rfl : args = #[v0, v1, v2, v3, v4] := by cases args; simp_all
  obtain ⟨rfl, rfl⟩ := trodVars_none hV
  have k0 := h0
  have lt0 : ∀ x ∈ p0, x.block < W.heap.size := by obtain ⟨m, hm⟩ := k0; exact DataW.trod_lt m _ _ _ hm
  obtain ⟨a0, len0, cap0, rfl⟩ := okWide_slice Try.underlying22 (hval 0 22 v0 rfl rfl)
  obtain ⟨xs0, hxs0, hcap0, hmax0⟩ := open_rowsAt Try.underlying22 Try.underlying24 Try.underlying3 (by kernel_rfl) (by kernel_rfl) h0
  have k1 := h1
  have lt1 : ∀ x ∈ p1, x.block < W.heap.size := by obtain ⟨m, hm⟩ := k1; exact DataW.trod_lt m _ _ _ hm
  obtain ⟨a1, rfl, rfl, rfl, w1⟩ := open_int Try.underlying3 (hval 1 3 v1 rfl rfl) h1
  have k2 := h2
  have lt2 : ∀ x ∈ p2, x.block < W.heap.size := by obtain ⟨m, hm⟩ := k2; exact DataW.trod_lt m _ _ _ hm
  obtain ⟨a2, rfl, rfl, rfl, w2⟩ := open_int Try.underlying3 (hval 2 3 v2 rfl rfl) h2
  have k3 := h3
  have lt3 : ∀ x ∈ p3, x.block < W.heap.size := by obtain ⟨m, hm⟩ := k3; exact DataW.trod_lt m _ _ _ hm
  obtain ⟨a3, rfl, rfl, rfl, w3⟩ := open_int Try.underlying3 (hval 3 3 v3 rfl rfl) h3
  have k4 := h4
  have lt4 : ∀ x ∈ p4, x.block < W.heap.size := by obtain ⟨m, hm⟩ := k4; exact DataW.trod_lt m _ _ _ hm
  obtain ⟨a4, rfl, rfl, rfl⟩ := open_bool Try.underlying4 (hval 4 4 v4 rfl rfl) h4
  clear hA0 hval0
  refine (SmithDivides_any a0 len0 cap0 xs0 hxs0 hcap0 hmax0 a1 a2 a3 a4 W rfl).mono fun e W' ⟨he, bel⟩ => ?_
  subst he
  exact ⟨_, rfl, _, _, _, [], _, [], hW', trodAll_mk1 (shut_bool Try.underlying4 _), (trodAll_cons_mk (Below.trod frame_laid (by kernel_rfl) (of_decide_eq_true (by kernel_rfl)) k0 bel lt0) (trodAll_cons_mk (Below.trod frame_laid (by kernel_rfl) (of_decide_eq_true (by kernel_rfl)) k1 bel lt1) (trodAll_cons_mk (Below.trod frame_laid (by kernel_rfl) (of_decide_eq_true (by kernel_rfl)) k2 bel lt2) (trodAll_cons_mk (Below.trod frame_laid (by kernel_rfl) (of_decide_eq_true (by kernel_rfl)) k3 bel lt3) (trodAll_cons_mk (Below.trod frame_laid (by kernel_rfl) (of_decide_eq_true (by kernel_rfl)) k4 bel lt4) trodAll_mk0))))), rfl, bel.frame _, fun h => by cases h⟩

theorem SmithDivides_over : Rows.smithDividesRow.holds Try.pinned (OpenSpec.ofChange Rows.smithDividesSpec) :=
  OpenClaim.holds_of_wide 3 Try.f3 rfl rfl rfl rfl rfl rfl rfl ⟨rfl, rfl, rfl, rfl, rfl⟩ rfl rfl rfl rfl rfl (by kernel_rfl) Try.func3 (by kernel_rfl)
    (of_decide_eq_true (by kernel_rfl)) (by unfold Func.isWrapper; first | (rw [if_pos (by decide +kernel)]; kernel_rfl) | (rw [if_neg (by decide +kernel)]; exact ⟨rfl, rfl⟩))
    (fun os started H enc _ => frame_lifted os started H enc)

/-- THE STATEMENT -/
theorem SmithDivides_holds : Rows.SmithDividesSaid := SmithDivides_over
end Go.Proofs.Ytllomialkiaccaa.SmithDividesP
