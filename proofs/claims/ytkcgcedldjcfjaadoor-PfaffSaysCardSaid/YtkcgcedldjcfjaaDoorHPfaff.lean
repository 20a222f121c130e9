/- Contract of the reference's Pfaff. -/
import Derived.Test.YtkcgcedldjcfjaaDoorRSign
import Derived.Test.YtkcgcedldjcfjaaDoorSnoc
import Derived.Test.YtkcgcedldjcfjaaDoorAny
import Derived.Test.YtkcgcedldjcfjaaDoorPfOf
import Derived.Deep.LoopGhost
import Derived.BigQuiet
import Derived.Deep.RegionHeld3
import Derived.Deep.AppendLies
namespace Go.Proofs.YtkcgcedldjcfjaaDoor
open Go.RowKit
set_option linter.unusedVariables false
set_option linter.unusedSimpArgs false

theorem OwnInts.intsAt' {w : World} {B : Nat} {a : Option Addr} {n cap : Nat} {xs : List Int} (h : OwnInts w B (.slice a n cap) xs) : IntsAt w a n xs := by
  obtain ⟨a', cap', e, _, _, _, h5⟩ := h.shape
  cases e
  exact h5
theorem all_yet' {l : List Int} {i : Nat} (h : ∀ q : Nat, q < i → (q : Int) ∈ l) (hi : (i : Int) ∈ l) : ∀ q : Nat, q < i + 1 → (q : Int) ∈ l := all_yet h hi
theorem RowsAt.at {w : World} {b off n : Nat} {rows : List (List Int)} (h : RowsAt w (Option.some ⟨b, off, none⟩) n rows) (hs : Sq n rows) {i j : Nat} (hi : i < n) (hj : j < n) :
    ∃ g o rc, w.cell? ⟨b, off + i, none⟩ = Option.some (.slice (Option.some ⟨g, o, none⟩) n rc) ∧ w.cell? ⟨g, o + j, none⟩ = Option.some (.int .i64 (fn rows i j)) ∧ g < w.heap.size := by
  obtain ⟨g, o, rc, h1, h2⟩ := h.elem hi (j := j) (by rw [hs.2 i hi]; exact hj)
  rw [hs.2 i hi] at h1
  exact ⟨g, o, rc, h1, h2, World.block_lt_of_cell? _ _ h2⟩
theorem wrap_prod (P y : Int) : wrap64 (wrap64 P * y) = wrap64 (P * y) := by rw [Int.mul_comm, wrap_mul_r, Int.mul_comm]

set_option maxRecDepth 100000 in
set_option maxHeartbeats 1000000 in
theorem HPfaff_leaf (n : Nat) (hn : n ≤ 1000) (a : Option Addr) (cap : Nat) (rows : List (List Int)) (hsq : Sq n rows) (au : Option Addr) (cu : Nat) (l : List Int) (w : World) (hr : RowsAt w a n rows) (hu : IntsAt w au n l) (hf : Fit n l) :
    Calls Tryd.prog 7 #[.slice a n cap, .slice au n cu] w fun e w' => e = .returned (.int .i64 (wrap64 (signV l * prodP (fn rows) l (n / 2)))) ∧ Below w.heap.size w w' := by
  have hl := hu.1
  have hS := RSign_any au n cu l w hu hn
  have HR := Lib.hid hr
  have HU := Lib.hid hu
  have HL := Lib.hid hl
  have HF := Lib.hid hf
  have HSQ := Lib.hid hsq
  clear hr hu hl hf hsq
  go_enter Tryd.func7, Tryd.ntmps7
  go_wp2_with fail
  go_at_call 15
  refine (hS).mono ?_
  rintro e w1 ⟨rfl, hb1⟩
  go_wp2_with fail
  go_loopg [5, 6] (n + 1) (fun g s i wr => ∃ q : Nat, 2 * q ≤ n ∧ n - 2 * q < g ∧ s = .int .i64 (wrap64 (signV l * prodP (fn rows) l q)) ∧ i = .int .i64 (2 * q : Nat) ∧ Below w.heap.size w wr)
  case atStart => 
    refine ⟨0, by omega, by omega, ?_, rfl, hb1⟩
    have := sgI_pm l l.length
    have h2 : signV l = sgI l l.length ∨ signV l = 0 := by unfold signV; split <;> simp
    rw [prodP, Int.mul_one, wrap_in (by omega) (by omega)]
  case round =>
    obtain ⟨q, hq, hg, rfl, rfl, hbel⟩ := hrel
    obtain ⟨P, hP⟩ : ∃ P, P = signV l * prodP (fn rows) l q := ⟨_, rfl⟩
    rw [← hP]
    by_cases hlt : 2 * q + 1 < n
    · obtain ⟨x, hx, ex⟩ := HF.out.at (i := 2 * q) (by rw [HL.out]; omega)
      obtain ⟨y, hy, ey⟩ := HF.out.at (i := 2 * q + 1) (by rw [HL.out]; omega)
      have hst := prodP_succ (fn rows) l q x y ex ey
      obtain ⟨b, off, rfl, hbb, hcell⟩ := (HU.out.call hbel).some (show 0 < n by omega)
      have hc1 := hcell (2 * q) (by omega)
      have hc2 := hcell (2 * q + 1) (by omega)
      rw [ex] at hc1
      rw [ey] at hc2
      obtain ⟨br, offr, rfl, hbr⟩ := (HR.out.call hbel).some (by omega)
      obtain ⟨g2, o2, r2, c2, x2, z2⟩ := (HR.out.call hbel).at HSQ.out hx hy
      obtain ⟨z, hz⟩ : ∃ z, z = fn rows x y := ⟨_, rfl⟩
      rw [← hz] at x2 hst
      have hst2 : signV l * prodP (fn rows) l (q + 1) = P * z := by rw [hst, hP, Int.mul_assoc]
      have HST := Lib.hid hst2
      have HBE := Lib.hid hbel
      obtain ⟨t, ht⟩ : ∃ t : Nat, t = 2 * q := ⟨_, rfl⟩
      have HT := Lib.hid ht
      rw [← ht] at hc1 hc2 hlt hg ⊢
      have hx0 : (0 : Int) ≤ x := by omega
      have hx1 : (x : Int) < n := by omega
      have hy0 : (0 : Int) ≤ y := by omega
      have hy1 : (y : Int) < n := by omega
      have ht0 : (0 : Int) ≤ t := by omega
      have ht1 : (t : Int) < n := by omega
      have ht2 : (0 : Int) ≤ t + 1 := by omega
      have ht3 : (t : Int) + 1 < n := by omega
      have htw : IntKind.i64.wrap ((t : Int) + 1) = t + 1 := IntWalk.i64_in _ (by omega)
      have htn : ((t : Int) + 1).toNat = t + 1 := by omega
      clear hst hst2 hz ht hP ex ey hcell hbel
      go_wp2_with fail
      refine wp_region_quiet (C := Cls wr.heap.size wr) (by kernel_rfl) (by kernel_rfl) Cls.start ?_
      repeat
        (refine wpQuiet_step (fun K hK => ?_)
         go_simp
         first
           | (refine hK _ ?_; clear hK K)
           | (apply Exists.intro
              refine ⟨fun w' hC => ?_, hK _ ?_⟩
              · (obtain ⟨hr, hr2⟩ := hC.rules
                 first
                   | (fail)
                   | (go_simp; done)
                   | (go_simp; rfl))
              clear hK K))
      refine wpQuiet_nil ?_
      intro w4 hw4
      have hbe := below_trans HBE.out hw4
      go_wp2_with fail
      go_roundg (n - t)
      case measure => omega
      case rel => exact ⟨q + 1, by have := HT.out; omega, by have := HT.out; omega, by rw [HST.out, ← wrap_prod]; simp only [IntWalk.i64_left], by rw [HT.out]; go_num, hbe⟩
    · have hq2 : q = n / 2 := by omega
      have HPQ := Lib.hid hP
      have HQ := Lib.hid hq2
      obtain ⟨t, ht⟩ : ∃ t : Nat, t = 2 * q := ⟨_, rfl⟩
      rw [← ht] at hlt hg ⊢
      clear hP hq2
      go_wp2_with fail
      go_ret
      exact ⟨ret_int (by rw [HPQ.out, HQ.out]), hbel⟩

set_option maxRecDepth 100000 in
set_option maxHeartbeats 2000000 in
theorem HPfaff_any (n : Nat) (hn : n ≤ 1000) (a : Option Addr) (cap : Nat) (rows : List (List Int)) (hsq : Sq n rows) (f : Nat) : ∀ (au : Option Addr) (m cu : Nat) (l : List Int) (w : World), n < m + 2 * f → RowsAt w a n rows → IntsAt w au m l → (au = none → cu = 0) → Fit n l →
    Calls Tryd.prog 7 #[.slice a n cap, .slice au m cu] w fun e w' => e = .returned (.int .i64 (wrap64 (pfU n (fn rows) f l))) ∧ Below w.heap.size w w' := by
  induction f with
  | zero => intro au m cu l w h1 hr hu hc hf; have := hf.1; have := hu.1; omega
  | succ f ih =>
    intro au m cu l w h1 hr hu hc hf
    have hlm := hu.1
    rw [pfU]
    by_cases hmn : l.length = n
    · rw [if_pos hmn]
      obtain rfl : m = n := by omega
      exact HPfaff_leaf m hn a cap rows hsq au cu l w hr hu hf
    · rw [if_neg hmn]
      have hlt : l.length < n := by have := hf.1; omega
      obtain ⟨p0, hp0, hp1⟩ := pigeon n l hlt
      obtain ⟨ii, hi, hz0, hz1, hz2⟩ := info_parts info_int
      have HR := Lib.hid hr
      have HU := Lib.hid hu
      have HCU := Lib.hid hc
      have HL := Lib.hid hlm
      have HF := Lib.hid hf
      have IH := Lib.hid ih
      have HP0 := Lib.hid hp1
      have hmni : ((m : Int) == (n : Int)) = false := by simp; omega
      have hmn1 : m < n := by omega
      obtain ⟨F, hF⟩ : ∃ F : Nat → Int, F = fun (j : Nat) => if firstOut n l < j ∧ ¬ (j : Int) ∈ l then pfU n (fn rows) f (l ++ [(firstOut n l : Int)] ++ [(j : Int)]) else 0 := ⟨_, rfl⟩
      rw [← hF]
      have HFF := Lib.hid hF
      clear hr hu hc hf ih hp1 hF hlm hmn hlt
      go_enter Tryd.func7, Tryd.ntmps7
      go_wp2_with fail
      go_loopg [7] (n + 1) (fun g i wr => ∃ p : Nat, p ≤ p0 ∧ n - p < g ∧ i = .int .i64 p ∧ (∀ q : Nat, q < p → (q : Int) ∈ l) ∧ wr = w)
      case atStart => exact ⟨0, by omega, by omega, rfl, fun q hq => by omega, rfl⟩
      case round =>
        obtain ⟨p, hp, hg, rfl, hall, rfl⟩ := hrel
        have HA := Lib.hid hall
        have hrc := RHas_any au m cu l (p : Int) wr HU.out (by omega)
        clear hall
        by_cases hin : (p : Int) ∈ l
        · rw [show decide ((p : Int) ∈ l) = true by simpa using hin] at hrc
          have HI := Lib.hid hin
          have hne : p ≠ p0 := fun e => HP0.out (e ▸ hin)
          clear hin
          go_wp2_with fail
          go_at_call 16
          refine (hrc).mono ?_
          rintro e w1 ⟨rfl, rfl⟩
          go_wp2_with fail
          go_roundg (n - p)
          case measure => omega
          case rel => exact ⟨p + 1, by omega, by omega, by go_num, all_yet HA.out HI.out, rfl⟩
        · rw [show decide ((p : Int) ∈ l) = false by simpa using hin] at hrc
          have hfo : firstOut n l = p := firstOut_eq (by omega) HA.out hin
          have hfit := HF.out.add (by omega) hin
          rw [hfo] at HFF
          have HFO := Lib.hid hfo
          have HIN := Lib.hid hin
          have HFIT := Lib.hid hfit
          have hpn : (p : Int) < n := by omega
          clear hin hfo hfit
          go_wp2_with fail
          go_at_call 16
          refine (hrc).mono ?_
          rintro e w1 ⟨rfl, rfl⟩
          go_wp2_with fail
          have hz : sumTo F (p + 1) = 0 := by
            have : ∀ k, k ≤ p + 1 → sumTo F k = 0 := by
              intro k
              induction k with
              | zero => intro _; rfl
              | succ k ih =>
                intro hk
                rw [sumTo, ih (by omega), HFF.out]
                simp only []
                rw [if_neg (by omega)]
                rfl
            exact this _ (Nat.le_refl _)
          have HZ0 := Lib.hid hz
          clear hz
          obtain ⟨wo, rfl⟩ : ∃ wo : World, wo = wr := ⟨_, rfl⟩
          go_loopg [8, 9] (n + 1) (fun g s i wn => ∃ j : Nat, j ≤ n ∧ p < j ∧ n - j < g ∧ s = .int .i64 (wrap64 (sumTo F j)) ∧ i = .int .i64 j ∧ Below wo.heap.size wo wn)
          case atStart => exact ⟨p + 1, by omega, by omega, by omega, by rw [HZ0.out, wrap_in (by omega) (by omega)], by go_num, Below.refl _ _⟩
          case round =>
            obtain ⟨j, hj, hpj, hg, rfl, rfl, hbel⟩ := hrel
            by_cases hlt : j < n
            · have hr1 := RHas_any au m cu l (j : Int) wr (HU.out.call hbel) (by omega)
              obtain ⟨P, hP⟩ : ∃ P, P = sumTo F j := ⟨_, rfl⟩
              have hsum : sumTo F (j + 1) = P + F j := by rw [sumTo, hP]
              rw [HFF.out] at hsum
              simp only [] at hsum
              rw [← HFF.out] at hsum
              rw [← hP]
              have hji : (j : Int) < n := by omega
              by_cases hin : (j : Int) ∈ l
              · rw [show decide ((j : Int) ∈ l) = true by simpa using hin] at hr1
                rw [if_neg (fun h => h.2 hin), Int.add_zero] at hsum
                have HSUM := Lib.hid hsum
                clear hP hsum hin
                go_wp2_with fail
                go_at_call 16
                refine (hr1).mono ?_
                rintro e w2 ⟨rfl, rfl⟩
                go_wp2_with fail
                go_roundg (n - j)
                case measure => omega
                case rel => exact ⟨j + 1, by omega, by omega, by omega, by rw [HSUM.out], by go_num, hbel⟩
              · rw [show decide ((j : Int) ∈ l) = false by simpa using hin] at hr1
                rw [if_pos ⟨hpj, hin⟩] at hsum
                have hj2 : ¬ (j : Int) ∈ l ++ [(p : Int)] := by
                  rw [List.mem_append, List.mem_singleton]
                  rintro (h | h)
                  · exact hin h
                  · omega
                have HFIT2 := Lib.hid (HFIT.out.add hlt hj2)
                have HSUM := Lib.hid hsum
                have hml : (l.map (Value.int .i64)).length = m := by rw [List.length_map, HL.out]
                have HML := Lib.hid hml
                have HCE := Lib.hid (cells_of_ints (HU.out.call hbel))
                have HBE := Lib.hid hbel
                have hm1 : m ≤ 1000 := by omega
                clear hP hsum hin hj2 hml
                go_wp2_with fail
                go_at_call 16
                refine (hr1).mono ?_
                rintro e w2 ⟨rfl, rfl⟩
                have hll : l.length ≤ 1000 := by rw [HL.out]; omega
                have hl2 : (l ++ [(p : Int)]).length ≤ 1001 := by rw [List.length_append, List.length_singleton]; omega
                have HL2 := Lib.hid (show (l ++ [(p : Int)] ++ [(j : Int)]).length = m + 2 by rw [List.length_append, List.length_append, List.length_singleton, List.length_singleton, HL.out])
                have HHF := Lib.hid (show ∀ (W : World), Below wr.heap.size wr W → Below wo.heap.size wo W from fun W h => below_trans HBE.out h)
                go_wp2_with (first
                  | (at_builtin; refine wpList_append_own1 (o := ⟨some 61, _, _, _, _, _⟩) rfl _ _ 33 rfl wr.heap.size 3 ii (.int .i64 0) 8 Tryd.underlying33 hi hz0 hz1 hz2 rfl _ 0 [] rfl (World.ownsRow_nil _ _ _ _) _ m _ (l.map (Value.int .i64)) rfl HML.out HCU.out (fun j u h => HCE.out j u h) (ints_oneCell _ _) (by unfold maxLen; omega) (by omega) (Nat.le_refl _) ?_; intro v1 w3 hown1 hgrow1; have HF1 := Lib.hid (fresh1 hgrow1); have HOI := Lib.hid (show OwnInts w3 wr.heap.size v1 l from (by unfold OwnInts; rw [HL.out]; simpa using hown1)); clear hown1 hgrow1)
                  | (at_builtin; refine wpList_append_own1 (o := ⟨some 65, _, _, _, _, _⟩) rfl _ _ 33 rfl wr.heap.size 3 ii (.int .i64 0) 8 Tryd.underlying33 hi hz0 hz1 hz2 rfl _ l.length (l.map (Value.int .i64)) rfl (World.ownsRow.alloc HOI.out _) (some ⟨w3.heap.size, 0, none⟩) 1 1 [.int .i64 (p : Int)] rfl rfl (fun h => by cases h) (one_new _ _ _) (one_int _ _) (by unfold maxLen; omega) (by omega) (le_alloc HF1.out.size _) ?_; intro v2 w4 hown2 hgrow2; have HO2 := Lib.hid (OwnInts.snoc rfl hown2); have HB2 := Lib.hid (show Below wr.heap.size wr w4 from own_grow HF1.out HOI.out hgrow2); clear hown2 hgrow2)
                  | (at_builtin; refine wpList_append_own1 (o := ⟨some 71, _, _, _, _, _⟩) rfl _ _ 33 rfl wr.heap.size 3 ii (.int .i64 0) 8 Tryd.underlying33 hi hz0 hz1 hz2 rfl _ (l ++ [(p : Int)]).length ((l ++ [(p : Int)]).map (Value.int .i64)) rfl (World.ownsRow.alloc HO2.out _) (some ⟨w4.heap.size, 0, none⟩) 1 1 [.int .i64 (j : Int)] rfl rfl (fun h => by cases h) (one_new _ _ _) (one_int _ _) (by unfold maxLen; omega) (by omega) (le_alloc HB2.out.size _) ?_; intro v5 w5 hown5 hgrow5; have HB5 := Lib.hid (show Below wr.heap.size wr w5 from own_grow HB2.out HO2.out hgrow5); have ho5 := OwnInts.snoc rfl hown5; clear hown5 hgrow5; obtain ⟨a5, c5, rfl, _, _, hn5, hi5⟩ := ho5.shape; rw [HL2.out] at hi5 ⊢; have HI5 := Lib.hid hi5; have HN5 := Lib.hid hn5; clear ho5 hi5 hn5)
                  | (go_at_call 7; refine (IH.out _ _ _ (l ++ [(p : Int)] ++ [(j : Int)]) _ (by omega) (HR.out.call (HHF.out _ HB5.out)) HI5.out HN5.out HFIT2.out).mono ?_; rintro e w6 ⟨rfl, hb6⟩))
                have hbel6 := below_trans (HHF.out _ HB5.out) hb6
                go_roundg (n - j)
                case measure => omega
                case rel => exact ⟨j + 1, by omega, by omega, by omega, by rw [HSUM.out]; show Value.int .i64 (wrap64 (wrap64 P + wrap64 _)) = _; rw [wrap_add_l, wrap_add_r]; simp, by go_num, hbel6⟩
            · obtain rfl : j = n := by omega
              go_wp2_with fail
              go_ret
              exact ⟨rfl, hbel⟩
end Go.Proofs.YtkcgcedldjcfjaaDoor
