/- It proves that rankmerelaw4.PermRows, called with any list of lists of integers and any three integers, returns true, and leaves its arguments as they were. There are no conditions. -/
import Derived.Test.YtbicffgddheakaaPermFact
import Derived.Test.YtbicffgddheakaaRowsLaw
import Derived.Test.YtbicffgddheakaaRCopy
import Derived.Test.YtbicffgddheakaaRMatrix
import Derived.Test.YtbicffgddheakaaLawIn
import Derived.Test.YtbicffgddheakaaMix
import Derived.Test.YtbicffgddheakaaPut
import Derived.Test.YtbicffgddheakaaOpen
import Derived.StillTailTactics
import Derived.ProofKit
import Derived.OpenShut
import Derived.ShutString
import Derived.ChangeOld
import Derived.Lib.SmallJoins
namespace Go.Proofs.Ytbicffgddheakaa.PermRowsP
open Go.ChangeShapes Go.WideShapes Go.ChangeAt Go.RowKit Go.Joins
open Go.ChangeMaps (open_string shut_string)
open Go.Proofs.Ytbicffgddheakaa
set_option linter.unusedVariables false
set_option linter.unusedSimpArgs false

/-- row i so many times what it was, done as far as c -/
def rowTo (M : Nat → Nat → Int) (i : Nat) (k : Int) (c a b : Nat) : Int := if a = i ∧ b < c then k * M i b else M a b
theorem row_step {n : Nat} {A : List (List Int)} {M : Nat → Nat → Int} {i c : Nat} {k : Int} (hs : Sq n A) (hi : i < n) (hc : c < n) (h : ∀ a b, a < n → b < n → fn A a b = rowTo M i k c a b) :
    ∀ a b, a < n → b < n → fn (putE A i c (k * M i c)) a b = rowTo M i k (c + 1) a b := by
  intro a b ha hb
  rw [fn_put hs hi hc, h a b ha hb]
  unfold rowTo
  by_cases h1 : a = i <;> by_cases h4 : b = c <;> simp [h1, h4] <;> grind

theorem permV_by {n : Nat} {A : List (List Int)} {M : Nat → Nat → Int} (hs : Sq n A) (h0 : 0 < n) (h6 : n ≤ 5) (he : ∀ i j, i < n → j < n → fn A i j = M i j) (hb : ∀ i j, i < n → j < n → -9 ≤ M i j ∧ M i j ≤ 9) :
    sqErr A 5 (-9) 9 = 0 ∧ permV A = G 1 n M := by
  have hent : Ent 9 A := ent_of (by omega) hs (fun i j hi hj => by rw [he i j hi hj]; exact hb i j hi hj)
  have hsq := sqErr_of (most := 5) hs h0 (by omega) hent
  refine ⟨hsq, ?_⟩
  unfold permV
  rw [if_pos hsq, hs.1, permN_G]
  exact G_congr 1 n he
theorem permV_self {rows : List (List Int)} (h : sqErr rows 5 (-9) 9 = 0) : permV rows = G 1 rows.length (fn rows) := by
  unfold permV
  rw [if_pos h, permN_G]
theorem permV_flip {rows : List (List Int)} {n : Nat} (hl : rows.length = n) (h : sqErr rows 5 (-9) 9 = 0) : sqErr (flipTo rows n n) 5 (-9) 9 = 0 ∧ permV (flipTo rows n n) = permV rows := by
  subst hl
  obtain ⟨h4, h3, _⟩ := sqErr_good h
  have h2 := good_ent (B := 9) (by omega) h
  obtain ⟨g1, g2⟩ := permV_by (M := fun i j => fn rows j i) (sq_flip rows) h4 (by omega) (fun i j hi hj => fn_flipTo rows hi hj) (fun i j _ _ => h2 j i)
  exact ⟨g1, by rw [g2, permV_self h, G_flip]⟩
theorem permV_swap {rows : List (List Int)} {n : Nat} (hl : rows.length = n) (h : sqErr rows 5 (-9) 9 = 0) {i j : Nat} (hi : i < n) (hj : j < n) : sqErr (swapL rows i j) 5 (-9) 9 = 0 ∧ permV (swapL rows i j) = permV rows := by
  subst hl
  obtain ⟨h4, h3, _⟩ := sqErr_good h
  have h2 := good_ent (B := 9) (by omega) h
  have h1 := good_sq h
  obtain ⟨g1, g2⟩ := permV_by (M := swapR (fn rows) i j) (sq_swap h1 hi hj) h4 (by omega) (fun a b _ _ => fn_swapL h1 hi hj a b) (fun a b _ _ => h2 _ _)
  refine ⟨g1, ?_⟩
  rw [g2, permV_self h]
  by_cases hij : i = j
  · rw [hij, swapR_same]
  · rw [G_swap' 1 (by decide) _ i j _ hi hj hij, Int.one_mul]
theorem permV_times {rows A : List (List Int)} {n i : Nat} {k : Int} (hl : rows.length = n) (h : sqErr rows 5 (-9) 9 = 0) (hi : i < n) (hs : Sq n A) (he : ∀ a b, a < n → b < n → fn A a b = rowTo (fn rows) i k n a b) :
    (sqErr A 5 (-9) 9 = 0 ∧ permV A = k * permV rows) ∨ (sqErr A 5 (-9) 9 = 1 ∧ permV A = 0) := by
  subst hl
  obtain ⟨h4, h3, _⟩ := sqErr_good h
  rcases sqErr_or (most := 5) (lo := -9) (hi := 9) hs h4 (by omega) with g | g
  · left
    refine ⟨g, ?_⟩
    rw [permV_self h, ← G_scale 1 (by decide) _ i hi]
    unfold permV
    rw [if_pos g, hs.1, permN_G]
    refine G_congr 1 _ fun a b ha hb => ?_
    rw [he a b ha hb]
    unfold rowTo setRow
    by_cases h1 : a = i <;> simp [h1, hb]
  · right
    exact ⟨g, by unfold permV; rw [if_neg (by omega)]⟩

set_option maxRecDepth 100000 in
theorem rows_bad (a : Option Addr) (n cap : Nat) (rows : List (List Int)) (i j k : Int) (w : World) (hr : RowsAt w a n rows) (hcap : n ≤ cap) (hs : Small n rows) (he : sqErr rows 5 (-9) 9 ≠ 0) :
    Calls Try.prog 3 #[.slice a n cap, .int .i64 i, .int .i64 j, .int .i64 k] w fun e w' => e = .returned (.bool true) ∧ Below w.heap.size w w' := by
  have hO := fun w (h : RowsAt w a n rows) => PermFn_any a n cap rows w h hcap hs
  have HR := Lib.hid hr
  have hv : permV rows = 0 := by unfold permV; rw [if_neg he]
  have hE : errV (sqErr rows 5 (-9) 9) = .iface 48 (.int .i64 (sqErr rows 5 (-9) 9)) := by unfold errV; rw [if_neg he]
  rw [hv, hE] at hO
  generalize sqErr rows 5 (-9) 9 = e at *
  clear hr hs hE he hv
  go_enter Try.func3, Try.ntmps3
  go_wp2_with fail
  go_at_call 7
  refine (permFact_any _).mono ?_
  rintro e w1 ⟨rfl, hb⟩
  go_wp2_with fail
  go_at_call 8
  refine (hO _ (HR.out.call hb)).mono ?_
  rintro e w2 ⟨rfl, hb2⟩
  go_wp2_with fail
  go_ret
  exact ⟨rfl, below_trans hb hb2⟩

set_option maxRecDepth 100000 in
set_option maxHeartbeats 2000000 in
theorem rows_good (a : Option Addr) (n cap : Nat) (rows : List (List Int)) (i j k : Int) (w : World) (hr : RowsAt w a n rows) (hcap : n ≤ cap) (hs : Small n rows) (he : sqErr rows 5 (-9) 9 = 0) :
    Calls Try.prog 3 #[.slice a n cap, .int .i64 i, .int .i64 j, .int .i64 k] w fun e w' => e = .returned (.bool true) ∧ Below w.heap.size w w' := by
  have hO := fun w (h : RowsAt w a n rows) => PermFn_any a n cap rows w h hcap hs
  have hl := hr.1
  have h1 := good_sq he
  have h2 := good_ent (B := 9) (by omega) he
  obtain ⟨h4, h3, _⟩ := sqErr_good he
  rw [hl] at h1 h3 h4
  obtain ⟨f1, f2⟩ := permV_flip hl he
  have hsm : ∀ A, Sq n A → Small n A := fun A hA => ⟨by omega, fun k hk => by rw [hA.2 k hk]; omega⟩
  have hF := fun a cap w (hc : n ≤ cap) (h : RowsAt w a n (flipTo rows n n)) => PermFn_any a n cap (flipTo rows n n) w h hc (hsm _ (sq_flip _))
  obtain ⟨hv1, hv2⟩ := permV_bd rows
  rw [f1, f2, errV_zero] at hF
  rw [he, errV_zero] at hO
  have HR := Lib.hid hr
  have HS := Lib.hid h1
  have HN := Lib.hid h2
  have HE := Lib.hid he
  have HL := Lib.hid hl
  obtain ⟨v, hv⟩ : ∃ v, v = permV rows := ⟨_, rfl⟩
  rw [← hv] at hO hF hv1 hv2
  have HV := Lib.hid hv
  have hn1 : (1 : Int) ≤ n := by omega
  clear hr hs he hl h1 h2 hv f1 f2
  go_enter Try.func3, Try.ntmps3
  go_wp2_with fail
  go_at_call 7
  refine (permFact_any _).mono ?_
  rintro e w1 ⟨rfl, hb⟩
  go_wp2_with fail
  go_at_call 8
  refine (hO _ (HR.out.call hb)).mono ?_
  rintro e w2 ⟨rfl, hb2⟩
  have hB2 := below_trans hb hb2
  clear hb hb2 hO
  go_wp2_with fail
  go_at_call 9
  refine (Flip_any _ n n _ rows _ (HR.out.call hB2) (by omega) (by omega) (by omega) hcap HS.out.2).mono ?_
  rintro e w3 ⟨⟨vf, rfl, hf⟩, hb3⟩
  obtain ⟨a3, cap3, rfl, hc3, hc3', hra3⟩ := hf.rowsAt
  rw [flipTo_len] at hc3 hra3 ⊢
  have HF3 := Lib.hid hra3
  have hB3 := below_trans hB2 hb3
  clear hf hra3 hb3 hB2
  go_wp2_with fail
  go_at_call 8
  refine (hF _ _ _ hc3 HF3.out).mono ?_
  rintro e w4 ⟨rfl, hb4⟩
  have hB4 := below_trans hB3 hb4
  clear hF hB3 hb4
  go_wp2_with fail
  go_at_call 10
  refine (in_any _ _ _ _).mono ?_
  rintro e w5 ⟨rfl, rfl⟩
  cases hbi : inB i 0 ((n : Int) - 1)
  · go_wp2_with fail
    go_ret
    exact ⟨rfl, hB4⟩
  go_wp2_with fail
  go_at_call 10
  refine (in_any _ _ _ _).mono ?_
  rintro e w5 ⟨rfl, rfl⟩
  cases hbj : inB j 0 ((n : Int) - 1)
  · go_wp2_with fail
    go_ret
    exact ⟨rfl, hB4⟩
  go_wp2_with fail
  go_at_call 10
  refine (in_any _ _ _ _).mono ?_
  rintro e w5 ⟨rfl, rfl⟩
  cases hbk : inB k (-9) 9
  · go_wp2_with fail
    go_ret
    exact ⟨rfl, hB4⟩
  obtain ⟨hi0, hi1⟩ := inB_true hbi
  obtain ⟨hj0, hj1⟩ := inB_true hbj
  obtain ⟨hk0, hk1⟩ := inB_true hbk
  obtain ⟨p, rfl⟩ := Int.eq_ofNat_of_zero_le hi0
  obtain ⟨q, rfl⟩ := Int.eq_ofNat_of_zero_le hj0
  have hp : p < n := by omega
  have hq : q < n := by omega
  have hp1 : (p : Int) < n := by omega
  have hq1 : (q : Int) < n := by omega
  clear hbi hbj hbk
  go_wp2_with fail
  go_at_call 11
  refine (RCopy_any _ n _ rows _ (HR.out.call hB4) (by omega) hcap (fun k hk => by rw [HS.out.2 k hk]; omega)).mono ?_
  rintro e w5 ⟨⟨vc, rfl, hcp⟩, hb5⟩
  obtain ⟨G, cap5, vs, rfl, hmx⟩ := OwnRows.mix hcp (by rw [HL.out]; omega)
  rw [HL.out]
  have hB5 := below_trans hB4 hb5
  obtain ⟨b, off, rfl, hb⟩ := HR.out.some (by omega)
  have hG := hmx.base
  have hz4 := hB4.size
  have hbG : b ≠ G := by omega
  obtain ⟨ra1, rc1, hcq, hrq⟩ := readV_of HR.out hq hB5 (show w.heap.size ≤ G by omega)
  obtain ⟨ra2, rc2, hcp1, hrp⟩ := readV_of HR.out hp hB5 (show w.heap.size ≤ G by omega)
  rw [HS.out.2 q hq] at hcq
  rw [HS.out.2 p hp] at hcp1
  have hfp := hmx.free p
  have hfq := hmx.free q
  have hgp := hmx.cell (k := p) (by rw [HL.out]; exact hp)
  have hgq := hmx.cell (k := q) (by rw [HL.out]; exact hq)
  have m1 := hmx.put (k := p) (by rw [HL.out]; exact hp) hrq
  have st1 := World.ownsRow.stored hmx.1 p (Value.slice ra1 (rows.getD q []).length rc1)
  have m2 := m1.put (k := q) (by rw [List.length_set, HL.out]; exact hq) (hrp.kept st1.2 (fun k e => by cases e; rfl))
  rw [HS.out.2 q hq, HS.out.2 p hp] at m2
  have HM2 := Lib.hid (show MixRows _ _ _ _ _ (swapL rows p q) from m2)
  have hGz : G < w5.heap.size := hG.2
  obtain ⟨k1, k2⟩ := permV_swap HL.out HE.out hp hq
  have hs6 := sq_swap HS.out hp hq
  have hr6 := HM2.out.rowsAt
  have hc6 := HM2.out.cap_le
  rw [hs6.1] at hr6 hc6
  have hz : w.heap.size ≤ G := by omega
  have hB6 := (hB5.setCell (p := ⟨G, p, none⟩) hz (Value.slice ra1 n rc1)).setCell (p := ⟨G, q, none⟩) hz (Value.slice ra2 n rc2)
  rw [← HV.out] at k2
  generalize swapL rows p q = A6 at *
  have K1 := Lib.hid k1
  have K2 := Lib.hid k2
  have HS6 := Lib.hid hs6
  have HR6 := Lib.hid hr6
  have HB6 := Lib.hid hB6
  clear hcp hmx hrq hrp m1 st1 m2 hb5 k1 k2 hs6 hr6 hB6 HM2 hz hB4
  by_cases hpq : p = q
  case' pos =>
    subst hpq
    obtain ⟨rfl, rfl⟩ : ra1 = ra2 ∧ rc1 = rc2 := by have := hcq.symm.trans hcp1; simpa using this
    go_wp2_with fail
    clear hfp hfq hgp hgq hcq hcp1
    generalize (w5.setCell ⟨G, p, none⟩ (.slice ra1 n rc1)).setCell ⟨G, p, none⟩ (.slice ra1 n rc1) = W6 at *
  case' neg =>
    have hqp : ¬ q = p := fun h => hpq h.symm
    go_wp2_with fail
    clear hfp hfq hgp hgq hcq hcp1 hpq hqp
    generalize (w5.setCell ⟨G, p, none⟩ (.slice ra1 n rc1)).setCell ⟨G, q, none⟩ (.slice ra2 n rc2) = W6 at *
  all_goals
    go_at_call 11
    refine (RCopy_any _ n _ rows _ (HR.out.call HB6.out) (by omega) hcap (fun k hk => by rw [HS.out.2 k hk]; omega)).mono ?_
    rintro e w7 ⟨⟨vb, rfl, hcb⟩, hb7⟩
    obtain ⟨vsb, hvb⟩ := hcb.vals
    obtain ⟨Gb, capb, rfl, hcapb⟩ := hvb.isRows (by rw [HL.out]; omega)
    rw [HL.out] at hvb hcapb ⊢
    have HVB := Lib.hid hvb
    clear hcb hvb
    go_wp2_with fail
    go_loopg [16] (n + 1) (fun g i wr => ∃ (c : Nat) (A : List (List Int)), c ≤ n ∧ n - c < g ∧ i = .int .i64 c ∧ OwnRowsV wr W6.heap.size (.slice (some ⟨Gb, 0, none⟩) n capb) vsb A ∧ (Sq n A ∧ ∀ a b, a < n → b < n → fn A a b = rowTo (fn rows) p k c a b) ∧ Below W6.heap.size W6 wr)
    case atStart => exact ⟨0, rows, by omega, by omega, rfl, HVB.out, ⟨HS.out, fun a b _ _ => by simp [rowTo]⟩, hb7⟩
    case round =>
      obtain ⟨c, A, hc, hg, rfl, hA, hsA, hbel⟩ := hrel
      have HA := Lib.hid hA
      have HSA := Lib.hid hsA
      have hzr := hbel.size
      clear hA hsA hb7
      by_cases hlt : c < n
      · have hbw := below_trans HB6.out hbel
        obtain ⟨bp, op, rcp, hmp, hmpc⟩ := HR.out.elem (i := p) hp (j := c) (by rw [HS.out.2 p hp]; exact hlt)
        rw [HS.out.2 p hp] at hmp
        obtain ⟨x, hx⟩ : ∃ x, x = fn rows p c := ⟨_, rfl⟩
        rw [show (rows.getD p []).getD c 0 = x from hx.symm] at hmpc
        have hbp : bp < w.heap.size := World.block_lt_of_cell? _ _ hmpc
        rw [← hbw.cell (p := ⟨b, off + p, none⟩) hb] at hmp
        rw [← hbw.cell (p := ⟨bp, op + c, none⟩) hbp] at hmpc
        have hxb : -9 ≤ x ∧ x ≤ 9 := by rw [hx]; exact HN.out p c
        obtain ⟨hx1, hx2⟩ := hxb
        have hkx := bd_mul (B := 9) (C := 9) hk0 hk1 hx1 hx2
        obtain ⟨hkx1, hkx2⟩ := hkx
        obtain ⟨t, ht⟩ : ∃ t, t = k * x := ⟨_, rfl⟩
        rw [← ht] at hkx1 hkx2
        have HX := Lib.hid hx
        have HT := Lib.hid ht
        have hw1 : k * x = t := ht.symm
        have hw2 : IntKind.i64.wrap (k * x) = t := by rw [hw1]; exact IntWalk.i64_in _ (by omega)
        have hc0 : (0 : Int) ≤ c := by omega
        have hc1 : (c : Int) < n := by omega
        obtain ⟨g1, rc1', ha1, hg1, hg1z, hg1n, he1, hf1, hac1, hst1⟩ := HA.out.at HSA.out.1 hp hlt
        have HST := Lib.hid (hst1 t)
        clear hx ht hst1 hbw he1
        go_wp2_with fail
        go_still_tail 15, (by kernel_rfl)
        go_wp2_with fail
        go_roundg (n - c)
        case measure => omega
        case rel =>
          refine ⟨c + 1, _, by omega, by omega, by go_num, HST.out.call Cls.start, ⟨put_sq HSA.out.1 _ _ _, ?_⟩, (hbel.setCell (p := ⟨g1, c, none⟩) hg1 _).trans Cls.start⟩
          rw [HT.out, HX.out]
          exact row_step HSA.out.1 hp hlt HSA.out.2
      · obtain rfl : c = n := by omega
        have hra := HA.out.read
        rw [HSA.out.1.1] at hra
        have HRA := Lib.hid hra
        have HRS := Lib.hid (HR6.out.call hbel)
        have hOa := fun w h => PermFn_any (some ⟨G, 0, none⟩) c cap5 A6 w h hc6 (hsm _ HS6.out)
        rw [K1.out, K2.out, errV_zero] at hOa
        have hOb := fun w h => PermFn_any (some ⟨Gb, 0, none⟩) c capb A w h hcapb (hsm _ HSA.out.1)
        have cb := permV_times HL.out HE.out hp HSA.out.1 HSA.out.2
        rw [← HV.out] at cb
        have hkv := bd_mul (B := 9) (C := 7085880) hk0 hk1 hv1 hv2
        obtain ⟨hkv1, hkv2⟩ := hkv
        have hbw := below_trans HB6.out hbel
        have hkw : IntKind.i64.wrap (k * v) = k * v := IntWalk.i64_in _ (by omega)
        clear hra
        rcases cb with ⟨eb, xb⟩ | ⟨eb, xb⟩
        · rw [eb, xb, errV_zero] at hOb
          clear eb xb
          go_wp2_with fail
          go_at_call 8
          refine (hOa _ HRS.out).mono ?_
          rintro e w8 ⟨rfl, hb8⟩
          go_wp2_with fail
          go_at_call 8
          refine (hOb _ (HRA.out.call hb8)).mono ?_
          rintro e w9 ⟨rfl, hb9⟩
          go_wp2_with fail
          go_ret
          exact ⟨rfl, below_trans hbw (below_trans hb8 hb9)⟩
        · have hS := fun w (h : RowsAt w (some ⟨Gb, 0, none⟩) c A) => RSquare_any _ c capb A 5 (-9) 9 w h (by omega) (by omega) (hsm _ HSA.out.1).1 (hsm _ HSA.out.1).2
          rw [eb] at hS
          rw [eb, xb, errV_pos (by decide)] at hOb
          clear eb xb
          go_wp2_with fail
          go_at_call 8
          refine (hOa _ HRS.out).mono ?_
          rintro e w8 ⟨rfl, hb8⟩
          go_wp2_with fail
          go_at_call 8
          refine (hOb _ (HRA.out.call hb8)).mono ?_
          rintro e w9 ⟨rfl, hb9⟩
          go_wp2_with fail
          go_at_call 12
          refine (hS _ (HRA.out.call (below_trans hb8 hb9))).mono ?_
          rintro e w10 ⟨rfl, hb10⟩
          go_wp2_with fail
          go_ret
          exact ⟨rfl, below_trans hbw (below_trans (below_trans hb8 hb9) hb10)⟩

theorem PermRows_any (a : Option Addr) (n cap : Nat) (rows : List (List Int)) {w' : World} (hr : RowsAt w' a n rows) (hcap : n ≤ cap) (hs : Small n rows) (i j k : Int) (w : World) (e : w' = w) :
    Calls Try.prog 3 #[.slice a n cap, .int .i64 i, .int .i64 j, .int .i64 k] w fun e w' => e = .returned (.bool true) ∧ Below w.heap.size w w' := by
  subst e
  by_cases he : sqErr rows 5 (-9) 9 = 0
  · exact rows_good a n cap rows i j k w' hr hcap hs he
  · exact rows_bad a n cap rows i j k w' hr hcap hs he
theorem frame_own : ownKnob Try.prog.godebug = none := by kernel_rfl
theorem frame_laid : laidOutB Try.prog = true := by kernel_rfl
set_option maxRecDepth 100000 in
theorem frame_lifted (os : Os) (started : os.Started) (H : Type) (enc : TypeId × Value → H) :
    ReturnsInHanded {} Try.checked os 3 .any (Rows.permRowsSpec.pre6 enc Try.prog Try.f3 Rows.permRowsRow.domain false) (Rows.permRowsSpec.post enc Try.prog Try.f3 false true false false) := by
  refine returnsInHanded_of_change (C := Try.checked) frame_own started (by kernel_rfl) Try.func3
    (ChangeSpec.witness6 (enc := enc) (C := Try.checked) false ⟨#[], #[.slice none 0 0, .int .i64 0, .int .i64 0, .int .i64 0], []⟩ 8 (by kernel_rfl) (by kernel_rfl) (by kernel_rfl) (by kernel_rfl)) ?_
  intro W base args ds gs before hval0 hW hcnd _
  have hval : ∀ (j : Nat) t v, Try.f3.params[j]? = some t → args[j]? = some v → Value.okWide Try.prog W .any base t v := hval0
  have hW' := hW
  obtain ⟨p, q, hA0, hV, rfl, hfz, hnd⟩ := hW
  have hA : DataW.TrodAll enc Try.prog W 0 (fun _ => true) true Try.f3.params.toList args.toList ds p := hA0
  rw [Try.params3] at hA hval
  obtain ⟨v0, vs0, d0, ds0, p0, q0, hargs, rfl, rfl, h0, r0⟩ := trodAll_cons hA
  obtain ⟨v1, vs1, d1, ds1, p1, q1, rfl, rfl, rfl, h1, r1⟩ := trodAll_cons r0
  obtain ⟨v2, vs2, d2, ds2, p2, q2, rfl, rfl, rfl, h2, r2⟩ := trodAll_cons r1
  obtain ⟨v3, vs3, d3, ds3, p3, q3, rfl, rfl, rfl, h3, r3⟩ := trodAll_cons r2
  obtain ⟨rfl, rfl, rfl⟩ := trodAll_nil r3
  obtain rfl : args = #[v0, v1, v2, v3] := by cases args; simp_all
  obtain ⟨rfl, rfl⟩ := trodVars_none hV
  have k0 := h0
  have lt0 : ∀ x ∈ p0, x.block < W.heap.size := by obtain ⟨m, hm⟩ := k0; exact DataW.trod_lt m _ _ _ hm
  obtain ⟨a0, len0, cap0, rfl⟩ := okWide_slice Try.underlying22 (hval 0 22 v0 rfl rfl)
  obtain ⟨xs0, hxs0, hcap0, hmax0⟩ := open_rowsAt Try.underlying22 Try.underlying30 Try.underlying3 (by kernel_rfl) (by kernel_rfl) h0
  have k1 := h1
  have lt1 : ∀ x ∈ p1, x.block < W.heap.size := by obtain ⟨m, hm⟩ := k1; exact DataW.trod_lt m _ _ _ hm
  obtain ⟨a1, rfl, rfl, rfl, w1⟩ := open_int Try.underlying3 (hval 1 3 v1 rfl rfl) h1
  have k2 := h2
  have lt2 : ∀ x ∈ p2, x.block < W.heap.size := by obtain ⟨m, hm⟩ := k2; exact DataW.trod_lt m _ _ _ hm
  obtain ⟨a2, rfl, rfl, rfl, w2⟩ := open_int Try.underlying3 (hval 2 3 v2 rfl rfl) h2
  have k3 := h3
  have lt3 : ∀ x ∈ p3, x.block < W.heap.size := by obtain ⟨m, hm⟩ := k3; exact DataW.trod_lt m _ _ _ hm
  obtain ⟨a3, rfl, rfl, rfl, w3⟩ := open_int Try.underlying3 (hval 3 3 v3 rfl rfl) h3
  clear hA0 hval0
  refine (PermRows_any a0 len0 cap0 xs0 hxs0 hcap0 hmax0 a1 a2 a3 W rfl).mono fun e W' ⟨he, bel⟩ => ?_
  subst he
  exact ⟨_, rfl, _, _, _, [], _, [], hW', trodAll_mk1 (shut_bool Try.underlying4 _), (trodAll_cons_mk (Below.trod frame_laid (by kernel_rfl) (of_decide_eq_true (by kernel_rfl)) k0 bel lt0) (trodAll_cons_mk (Below.trod frame_laid (by kernel_rfl) (of_decide_eq_true (by kernel_rfl)) k1 bel lt1) (trodAll_cons_mk (Below.trod frame_laid (by kernel_rfl) (of_decide_eq_true (by kernel_rfl)) k2 bel lt2) (trodAll_cons_mk (Below.trod frame_laid (by kernel_rfl) (of_decide_eq_true (by kernel_rfl)) k3 bel lt3) trodAll_mk0)))), rfl, bel.frame _, fun h => by cases h⟩

theorem PermRows_over : Rows.permRowsRow.holds Try.pinned (OpenSpec.ofChange Rows.permRowsSpec) :=
  OpenClaim.holds_of_wide 3 Try.f3 rfl rfl rfl rfl rfl rfl rfl ⟨rfl, rfl, rfl, rfl, rfl⟩ rfl rfl rfl rfl rfl (by kernel_rfl) Try.func3 (by kernel_rfl)
    (of_decide_eq_true (by kernel_rfl)) (by unfold Func.isWrapper; first | (rw [if_pos (by decide +kernel)]; kernel_rfl) | (rw [if_neg (by decide +kernel)]; exact ⟨rfl, rfl⟩))
    (fun os started H enc _ => frame_lifted os started H enc)

/-- THE STATEMENT -/
theorem PermRows_holds : Rows.PermRowsSaid := PermRows_over
end Go.Proofs.Ytbicffgddheakaa.PermRowsP
