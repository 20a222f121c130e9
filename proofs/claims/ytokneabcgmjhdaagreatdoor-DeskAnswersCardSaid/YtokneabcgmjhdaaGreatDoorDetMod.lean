/- Contract of the reference's DetMod. -/
import Derived.Test.YtokneabcgmjhdaaGreatDoorBase
import Derived.Test.YtokneabcgmjhdaaGreatDoorRMod
import Derived.Test.YtokneabcgmjhdaaGreatDoorWithout
import Derived.Deep.LoopGhost
import Derived.Deep.RegionHeld3
namespace Go.Proofs.YtokneabcgmjhdaaGreatDoor
open Go.RowKit
set_option linter.unusedVariables false
set_option linter.unusedSimpArgs false

/-- Without, as it stands here -/
theorem Without_sqM (a : Option Addr) (n cap k : Nat) (rows : List (List Int)) (w : World) (hr : RowsAt w a (n + 1) rows) (hn : n + 1 ≤ 1000) (hcap : n + 1 ≤ cap) (hs : Sq (n + 1) rows) (hk : k < n + 1) :
    Calls Tryz.prog 55 #[.slice a (n + 1) cap, .int .i64 0, .int .i64 k] w fun e w' => ∃ a' cap', e = .returned (.slice a' n cap') ∧ n ≤ cap' ∧ RowsAt w' a' n (cut rows 0 k) ∧ Below w.heap.size w w' := by
  refine (Without_any a (n + 1) (n + 1) cap rows 0 k w hr hn hn hcap hs.2 (by omega) (by omega)).mono ?_
  rintro e w1 ⟨⟨vw, rfl, hvw⟩, hb1⟩
  obtain ⟨a', cap', rfl, h1, h2, h3⟩ := hvw.rowsAt
  have hc := (hs.cut (show 0 < n + 1 by omega) hk).1
  simp only [Int.toNat_natCast, show (0 : Int).toNat = 0 from rfl] at h1 h3 ⊢
  rw [hc] at h1 h3 ⊢
  exact ⟨a', cap', rfl, h1, h3, hb1⟩
/-- the sum so far, modulo the prime -/
def dmTo (n : Nat) (rows : List (List Int)) (k : Nat) : Int := sumTo (fun j => sgn j * (rows.getD 0 []).getD j 0 * detN n (cut rows 0 j)) k % 9973
theorem dmTo_zero (n k : Nat) (m : List (List Int)) (hx : (m.getD 0 []).getD k 0 = 0) : dmTo n m (k + 1) = dmTo n m k := by
  unfold dmTo
  rw [sumTo]
  simp only [hx]
  simp
theorem dmTo_bd (n k : Nat) (m : List (List Int)) : 0 ≤ dmTo n m k ∧ dmTo n m k < 9973 := by unfold dmTo; omega
theorem dmTo_step (n k : Nat) (m : List (List Int)) (x s D : Int) (hx : x = (m.getD 0 []).getD k 0) (hs : s = sgn k) (hD : D = detN n (cut m 0 k) % 9973) : dmTo n m (k + 1) = (dmTo n m k + s * x * D) % 9973 := by
  unfold dmTo
  rw [sumTo, hD]
  have h1 : (s * x * (detN n (cut m 0 k) % 9973)) % 9973 = (sgn k * (m.getD 0 []).getD k 0 * detN n (cut m 0 k)) % 9973 := by
    rw [hs, hx, Int.mul_emod, Int.emod_emod, ← Int.mul_emod]
  omega
set_option maxHeartbeats 1000000 in
theorem DetMod_any (n : Nat) : ∀ (a : Option Addr) (cap : Nat) (rows : List (List Int)) (w : World), n ≤ 1000 → n ≤ cap → Sq n rows → Ent 9972 rows → RowsAt w a n rows →
    Calls Tryz.prog 35 #[.slice a n cap] w fun e w' => e = .returned (.int .i64 (detN n rows % 9973)) ∧ Below w.heap.size w w' := by
  induction n with
  | zero =>
    intro a cap rows w hn hcap hsq hent hr
    go_enter Tryz.func35, Tryz.ntmps35
    go_wp2_with fail
    go_ret
    exact ⟨ret_int (by rw [detN]; rfl), Below.refl _ _⟩
  | succ n ih =>
    intro a cap rows w hn hcap hsq hent hr
    obtain ⟨b, off, rfl, hb⟩ := hr.some (by omega)
    obtain ⟨ra, rc, hc0, hrc, hrm, _, hrow⟩ := hr.row (i := 0) (by omega)
    have hlen0 := hsq.2 0 (by omega)
    rw [hlen0] at hc0 hrc hrow
    obtain ⟨b0, off0, rfl, hb0, hcells⟩ := hrow.some (by omega)
    obtain ⟨row, hrw⟩ : ∃ r, r = rows.getD 0 [] := ⟨_, rfl⟩
    have HSQ := Lib.hid hsq
    have HENT := Lib.hid hent
    have HR := Lib.hid hr
    have HRW := Lib.hid hrw
    have IH := Lib.hid ih
    have hcell : ∀ i, i < n + 1 → w.cell? ⟨b0, off0 + i, none⟩ = some (.int .i64 (row.getD i 0)) := by rw [hrw]; exact hcells
    have HC := Lib.hid hcell
    rw [Nat.add_zero] at hc0
    have HC0 := Lib.hid hc0
    rw [show detN (n + 1) rows % 9973 = dmTo n rows (n + 1) from rfl]
    have HBD := Lib.hid (fun k => dmTo_bd n k rows)
    have HDZ := Lib.hid (fun k => dmTo_zero n k rows)
    have HDS := Lib.hid (fun k => dmTo_step n k rows)
    have HD0 := Lib.hid (show dmTo n rows 0 = 0 from rfl)
    generalize dmTo n rows = F at *
    clear hsq hr hrw hrow hlen0 hcells ih hcell hc0 hent
    go_enter Tryz.func35, Tryz.ntmps35
    go_wp2_with fail
    go_loopg [3, 4, 5] (n + 1) (fun g s t i wr => ∃ k : Nat, k ≤ n + 1 ∧ n + 1 - k ≤ g ∧ s = .int .i64 (F k) ∧ t = .int .i64 (sgn k) ∧ i = .int .i64 k ∧ Below w.heap.size w wr)
    case atStart => exact ⟨0, by omega, by omega, by rw [HD0.out], rfl, rfl, Below.refl _ _⟩
    case round =>
      obtain ⟨k, hk, hg, rfl, rfl, rfl, hbel⟩ := hrel
      by_cases hlt : k < n + 1
      · obtain ⟨x, hx⟩ : ∃ x, x = row.getD k 0 := ⟨_, rfl⟩
        have hS : ∀ W, Below w.heap.size w W → W.cell? ⟨b, off, none⟩ = some (.slice (some ⟨b0, off0, none⟩) (n + 1) rc) ∧ W.cell? ⟨b0, off0 + k, none⟩ = some (.int .i64 x) := fun W h =>
          ⟨by rw [h.cell (p := ⟨b, off, none⟩) hb]; exact HC0.out, by rw [h.cell (p := ⟨b0, off0 + k, none⟩) hb0, hx]; exact HC.out k hlt⟩
        obtain ⟨hs1', hs2'⟩ := hS wr hbel
        have HSS := Lib.hid hS
        have hxe : -9972 ≤ x ∧ x ≤ 9972 := by rw [hx, HRW.out]; exact HENT.out 0 k
        have HX := Lib.hid hx
        clear hx hS
        obtain ⟨hs1, hs2⟩ := sgn_bd k
        have hF := HBD.out k
        have HDk := Lib.hid (HDS.out k)
        have HZk := Lib.hid (HDZ.out k)
        obtain ⟨P, hP⟩ : ∃ P, P = F k := ⟨_, rfl⟩
        rw [← hP] at hF HDk HZk ⊢
        obtain ⟨sg, hsg⟩ : ∃ s, s = sgn k := ⟨_, rfl⟩
        rw [← hsg] at hs1 hs2 HDk ⊢
        have HSG := Lib.hid hsg
        have hq0 : 0 ≤ detN n (cut rows 0 k) % 9973 ∧ detN n (cut rows 0 k) % 9973 < 9973 := by omega
        obtain ⟨D, hD⟩ : ∃ D, D = detN n (cut rows 0 k) % 9973 := ⟨_, rfl⟩
        have IHk := Lib.hid (fun a cap W h1 h2 h3 h4 => IH.out a cap (cut rows 0 k) W h1 h2 h3 (HENT.out.cut 0 k) h4)
        rw [← hD] at hq0 IHk
        have HDD := Lib.hid hD
        clear hP hsg hD
        have hk0 : (0 : Int) ≤ k := by omega
        have hk1 : (k : Int) < (n : Int) + 1 := by omega
        have hn0 : (0 : Int) < (n : Int) + 1 := by omega
        by_cases hx0 : x = 0
        · have hxb : (x != 0) = false := by simp [hx0]
          have HX0 := Lib.hid hx0
          clear hx0
          go_wp2_with fail
          go_roundg (n + 1 - (k + 1))
          case measure => omega
          case rel => exact ⟨k + 1, by omega, by omega, by rw [HZk.out (by rw [← HRW.out, ← HX.out]; exact HX0.out)], by rw [sgn_succ, ← HSG.out], by go_num, hbel⟩
        · have hxb : (x != 0) = true := by simp [hx0]
          clear hx0
          have HB := Lib.hid hbel
          have hsq' := HSQ.out.cut (show 0 < n + 1 by omega) hlt
          have HSQ' := Lib.hid hsq'
          obtain ⟨t, ht⟩ : ∃ t, t = sg * x := ⟨_, rfl⟩
          have ht1 : -9972 ≤ t ∧ t ≤ 9972 := by have h := bd_mul (B := 1) (C := 9972) hs1 hs2 hxe.1 hxe.2; rw [ht]; omega
          obtain ⟨u, hu⟩ : ∃ u, u = t * D := ⟨_, rfl⟩
          have hu1 : -(9972 * 9972) ≤ u ∧ u ≤ 9972 * 9972 := by rw [hu]; exact bd_mul ht1.1 ht1.2 (by omega) (by omega)
          have hw1 : sg * x = t := ht.symm
          have hw2 : t * D = u := hu.symm
          have HDk2 := Lib.hid (HDk.out x sg D (by rw [HX.out, HRW.out]) (by first | rfl | exact HSG.out) HDD.out)
          rw [hw1, hw2] at HDk2
          have hw3 : IntKind.i64.wrap t = t := IntWalk.i64_in _ (by omega)
          have hw4 : IntKind.i64.wrap u = u := IntWalk.i64_in _ (by omega)
          have hw5 : IntKind.i64.wrap (P + u) = P + u := IntWalk.i64_in _ (by omega)
          have hM := fun W => RMod_any (P + u) W
          clear hbel hsq' ht hu
          go_wp2_with fail
          go_region_held3 (fun w' => w'.cell? ⟨b, off, none⟩ = some (.slice (some ⟨b0, off0, none⟩) (n + 1) rc) ∧ w'.cell? ⟨b0, off0 + k, none⟩ = some (.int .i64 x)) (first | exact HSS.out _ (HB.out.trans Cls.start) | exact HSS.out _ (below_trans (HB.out.trans Cls.start) hb1) | exact HSS.out _ (below_trans (below_trans (HB.out.trans Cls.start) hb1) hb2))
            (first
              | (go_at_call 55; refine (Without_sqM _ n _ k rows _ (HR.out.call (HB.out.trans Cls.start)) (by omega) hcap HSQ.out hlt).mono ?_; rintro e w1 ⟨a', cap', rfl, h1, h3, hb1⟩)
              | (go_at_call 35; refine (IHk.out _ _ _ (by omega) h1 HSQ'.out h3).mono ?_; rintro e w2 ⟨rfl, hb2⟩)
              | (go_at_call 54; refine (hM _).mono ?_; rintro e w3 ⟨rfl, rfl⟩))
          have hb3 := below_trans (below_trans (HB.out.trans Cls.start) hb1) hb2
          clear hb1 hb2 hs1' hs2'
          go_wp2_with fail
          go_roundg (n + 1 - (k + 1))
          case measure => omega
          case rel => exact ⟨k + 1, by omega, by omega, by rw [HDk2.out], by rw [sgn_succ, ← HSG.out], by go_num, hb3⟩
      · obtain rfl : k = n + 1 := by omega
        go_wp2_with fail
        go_ret
        exact ⟨rfl, hbel⟩
end Go.Proofs.YtokneabcgmjhdaaGreatDoor
