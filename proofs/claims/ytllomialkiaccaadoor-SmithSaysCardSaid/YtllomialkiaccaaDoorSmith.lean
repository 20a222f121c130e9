/- Contracts of smith.Parts and smith.Index. -/
import Derived.Test.YtllomialkiaccaaDoorDivisor
import Derived.Test.YtllomialkiaccaaDoorSmLaw
import Derived.Test.YtllomialkiaccaaDoorHerCheck
import Derived.Deep.LoopGhost
namespace Go.Proofs.YtllomialkiaccaaDoor
open Go.RowKit
set_option linter.unusedVariables false
set_option linter.unusedSimpArgs false

set_option maxRecDepth 100000 in
theorem Parts_good (a : Option Addr) (n cap : Nat) (rows : List (List Int)) (w : World) (hr : RowsAt w a n rows) (hcap : n ≤ cap) (hs : Small n rows) (he : herErr rows = 0) :
    Calls Tryd.prog 8 #[.slice a n cap] w fun e w' => (∃ v, e = .returned (.tuple #[v, .nilIface]) ∧ OwnInts w' w.heap.size v (partsTo n (fn rows) n)) ∧ Below w.heap.size w w' := by
  have hC := HCheck_any a n cap rows w hr hcap hs
  rw [he, errV_zero] at hC
  have hk := herErr_good hr.1 he
  have h0 := hk.pos
  have h3 := hk.le
  have hD := fun (W : World) (hb : Below w.heap.size w W) (k : Nat) (hk0 : 0 < k) (hkn : k ≤ n) => Divisor_any a n cap k rows W (hr.call hb) hk.sq (fun i j => by have := hk.ent i j; omega) hk0 hkn h3
  have HD := Lib.hid hD
  have HKK := Lib.hid hk
  obtain ⟨ii, hi, hz0, hz1, hz2⟩ := info_parts info_int
  obtain ⟨P, hP⟩ : ∃ P, P = partsTo n (fn rows) n := ⟨_, rfl⟩
  rw [← hP]
  have HP := Lib.hid hP
  clear hr hs he hk hP hD
  go_enter Tryd.func8, Tryd.ntmps8
  go_wp2_with fail
  go_at_call 16
  refine (hC).mono ?_
  rintro e w1 ⟨rfl, hb⟩
  go_wp2_with fail
  have hle1 := hb.size
  go_loopg [5, 6, 7] (n + 1) (fun g v la kk wr => ∃ t : Nat, t ≤ n ∧ n - t < g ∧ RowKit.Hid (OwnInts wr w.heap.size v (partsTo n (fn rows) t)) ∧ la = .int .i64 (lastV n (fn rows) t) ∧ kk = .int .i64 ((t : Int) + 1) ∧ Below w.heap.size w wr)
  case atStart => exact ⟨0, Nat.zero_le _, by omega, Lib.hid (OwnInts.nil _ _), rfl, rfl, hb⟩
  case round =>
    obtain ⟨t, ht, hg, HO, rfl, rfl, hbt⟩ := hrel
    clear hb hle1 hC
    have hsz := hbt.size
    by_cases hlt : t < n
    · obtain ⟨q, hq1, hq2, hq3, hq4⟩ := fac HKK.out hlt
      have hL := last_range HKK.out (k := t) (by omega)
      have hDr := div_range HKK.out (k := t + 1) (by omega) (by omega)
      have hdiv := HD.out wr hbt (t + 1) (by omega) (by omega)
      rw [show (((t + 1 : Nat)) : Int) = (t : Int) + 1 by omega] at hdiv
      have hpt : partsTo n (fn rows) (t + 1) = partsTo n (fn rows) t ++ [q] := by rw [partsTo, ← hq1]
      have hlast : lastV n (fn rows) (t + 1) = divV n (t + 1) (fn rows) := rfl
      obtain ⟨D, hDD⟩ : ∃ D, D = divV n (t + 1) (fn rows) := ⟨_, rfl⟩
      obtain ⟨L, hLL⟩ : ∃ L, L = lastV n (fn rows) t := ⟨_, rfl⟩
      rw [← hDD] at hq1 hDr hdiv hlast
      rw [← hLL] at hq1 hL ⊢
      have hw1 : IntKind.i64.wrap (D.tdiv L) = q := by rw [← hq1]; exact IntWalk.i64_in _ (by omega)
      have hL0 : (L == 0) = false := by simp; omega
      have hlp := partsTo_len n (fn rows) t
      have HX := Lib.hid (show _ ∧ _ ∧ _ from ⟨hpt, hlast, hlp⟩)
      have hLne : L ≠ 0 := by omega
      have hln : ((t : Int) + 1 ≤ n) := by omega
      have hw2 : IntKind.i64.wrap ((t : Int) + 1 + 1) = (t : Int) + 1 + 1 := IntWalk.i64_in _ (by omega)
      clear hq1 hq2 hpt hlast hlp hDD hLL hL hDr
      go_wp2_with fail
      go_at_call 17
      refine (hdiv).mono ?_
      rintro e w2 ⟨rfl, hb2⟩
      have hO2 := HO.out.call hb2
      have HO2 := Lib.hid hO2
      have hle2 : w.heap.size ≤ w2.heap.size := Nat.le_trans hsz hb2.size
      have hbt2 := hbt.trans (hb2.mono hsz)
      clear hO2 hdiv
      go_wp2_with (at_builtin; refine wpList_append_own1 (o := ⟨some 28, _, _, _, _, _⟩) rfl _ _ 24 rfl w.heap.size 3 ii (.int .i64 0) 8 Tryd.underlying24 hi hz0 hz1 hz2 rfl _ (partsTo n (fn rows) t).length ((partsTo n (fn rows) t).map (Value.int .i64)) rfl (World.ownsRow.alloc HO2.out _) (some ⟨w2.heap.size, 0, none⟩) 1 1 [.int .i64 q] rfl rfl (fun h => by cases h) (one_new _ _ _) (one_int _ _) (by rw [HX.out.2.2]; unfold maxLen; omega) (by rw [HX.out.2.2]; omega) (le_alloc hle2 _) ?_; intro v3 w3 hown3 hgrow3)
      have hs3 := OwnInts.snoc rfl hown3
      rw [← HX.out.1] at hs3
      have hb3 : Below w.heap.size w w3 := (hbt2.alloc hle2 (.cells #[.int .i64 q] 3)).trans (grown_below hgrow3 (le_alloc hle2 _) (fun k hk => (HO2.out.lt k hk).1))
      go_roundg (n - t)
      case measure => omega
      case rel => exact ⟨t + 1, by omega, by omega, Lib.hid hs3, by rw [HX.out.2.1], by go_num, hb3⟩
    · obtain rfl : t = n := by omega
      have hO := HO.out
      rw [← HP.out] at hO
      have HO1 := Lib.hid hO
      clear hO HO
      go_wp2_with fail
      go_ret2
      exact ⟨⟨_, rfl, HO1.out⟩, hbt⟩
theorem Parts_bad (a : Option Addr) (n cap : Nat) (rows : List (List Int)) (w : World) (hr : RowsAt w a n rows) (hcap : n ≤ cap) (hs : Small n rows) (he : herErr rows ≠ 0) :
    Calls Tryd.prog 8 #[.slice a n cap] w fun e w' => e = .returned (.tuple #[.slice none 0 0, errV (herErr rows)]) ∧ Below w.heap.size w w' := by
  have hC := HCheck_any a n cap rows w hr hcap hs
  rw [errV_pos he] at hC ⊢
  generalize herErr rows = e at *
  clear hr hs he
  go_enter Tryd.func8, Tryd.ntmps8
  go_wp2_with fail
  go_at_call 16
  refine (hC).mono ?_
  rintro e w1 ⟨rfl, hb⟩
  go_wp2_with fail
  go_ret2
  exact ⟨rfl, hb⟩
set_option maxRecDepth 100000 in
theorem Index_good (a : Option Addr) (n cap : Nat) (rows : List (List Int)) (w : World) (hr : RowsAt w a n rows) (hcap : n ≤ cap) (hs : Small n rows) (he : herErr rows = 0) :
    Calls Tryd.prog 11 #[.slice a n cap] w fun e w' => e = .returned (.tuple #[.int .i64 ((G (-1) n (fn rows)).natAbs : Int), .nilIface]) ∧ Below w.heap.size w w' := by
  have hC := HCheck_any a n cap rows w hr hcap hs
  rw [he, errV_zero] at hC
  have hk := herErr_good hr.1 he
  have h3 := hk.le
  have hbd := hk.bd
  have hD := fun (W : World) (h : RowsAt W a n rows) => Det_any n a cap rows W (by omega) hcap hk.sq h
  rw [detN_G, wrap_in (by omega) (by omega)] at hD
  have hA := fun W => Abs_any (G (-1) n (fn rows)) W (by omega) (by omega)
  generalize G (-1) n (fn rows) = D at *
  have HR := Lib.hid hr
  clear hr hs he hk hbd
  go_enter Tryd.func11, Tryd.ntmps11
  go_wp2_with fail
  go_at_call 16
  refine (hC).mono ?_
  rintro e w1 ⟨rfl, hb⟩
  go_wp2_with fail
  go_at_call 20
  refine (hD _ (HR.out.call hb)).mono ?_
  rintro e w2 ⟨rfl, hb2⟩
  go_wp2_with fail
  go_at_call 19
  refine (hA _).mono ?_
  rintro e w3 ⟨rfl, rfl⟩
  go_wp2_with fail
  go_ret2
  exact ⟨rfl, below_trans hb hb2⟩
theorem Index_bad (a : Option Addr) (n cap : Nat) (rows : List (List Int)) (w : World) (hr : RowsAt w a n rows) (hcap : n ≤ cap) (hs : Small n rows) (he : herErr rows ≠ 0) :
    Calls Tryd.prog 11 #[.slice a n cap] w fun e w' => e = .returned (.tuple #[.int .i64 0, errV (herErr rows)]) ∧ Below w.heap.size w w' := by
  have hC := HCheck_any a n cap rows w hr hcap hs
  rw [errV_pos he] at hC ⊢
  generalize herErr rows = e at *
  clear hr hs he
  go_enter Tryd.func11, Tryd.ntmps11
  go_wp2_with fail
  go_at_call 16
  refine (hC).mono ?_
  rintro e w1 ⟨rfl, hb⟩
  go_wp2_with fail
  go_ret2
  exact ⟨rfl, hb⟩
end Go.Proofs.YtllomialkiaccaaDoor
