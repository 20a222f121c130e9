/- It proves that rankmeretop.TopOrders, called with any list of lists of integers, returns true, and leaves its argument as it was. There are no conditions. -/
import Derived.Test.YtbicffgddheakaaOrdMath
import Derived.Test.YtbicffgddheakaaPfFn
import Derived.Test.YtbicffgddheakaaBareFn
import Derived.Test.YtbicffgddheakaaRMatrix
import Derived.Test.YtbicffgddheakaaRAbs
import Derived.Test.YtbicffgddheakaaLawIn
import Derived.Test.YtbicffgddheakaaOpen
import Derived.ProofKit
import Derived.OpenShut
import Derived.ShutString
import Derived.ChangeOld
import Derived.Lib.SmallJoins
namespace Go.Proofs.Ytbicffgddheakaa.TopOrdersP
open Go.ChangeShapes Go.WideShapes Go.ChangeAt Go.RowKit Go.Joins
open Go.ChangeMaps (open_string shut_string)
open Go.Proofs.Ytbicffgddheakaa
set_option linter.unusedVariables false
set_option linter.unusedSimpArgs false

theorem fact_three : pfV [[0, 3], [-3, 0]] = 3 ∧ skErr [[0, 3], [-3, 0]] = 0 := by decide +kernel

theorem two_rows (w : World) (b b1 b2 : Nat) (h : w.cell? ⟨b, 0, none⟩ = some (.slice (some ⟨b1, 0, none⟩) 2 2)) (h' : w.cell? ⟨b, 1, none⟩ = some (.slice (some ⟨b2, 0, none⟩) 2 2)) (x y z t : Int)
    (h0 : w.cell? ⟨b1, 0, none⟩ = some (.int .i64 x)) (h1 : w.cell? ⟨b1, 1, none⟩ = some (.int .i64 y)) (h2 : w.cell? ⟨b2, 0, none⟩ = some (.int .i64 z)) (h3 : w.cell? ⟨b2, 1, none⟩ = some (.int .i64 t)) :
    RowsAt w (some ⟨b, 0, none⟩) 2 [[x, y], [z, t]] := by
  refine ⟨rfl, fun i hi => ?_⟩
  match i, hi with
  | 0, _ => exact ⟨_, 0, _, 2, rfl, h, by simp, by simp [maxLen], by simp, IntsAt_two _ _ _ _ h0 h1⟩
  | 1, _ => exact ⟨_, 0, _, 2, rfl, h', by simp, by simp [maxLen], by simp, IntsAt_two _ _ _ _ h2 h3⟩

/-- numbers from 0 on -/
theorem pos_of {n : Nat} {rows : List (List Int)} (hs : Sq n rows) (h : ∀ i, i < n → anyOut 0 9 (rows.getD i []) = false) : ∀ i j, i < n → j < n → 0 ≤ fn rows i j := by
  intro i j hi hj
  have h1 := h i hi
  have h2 := hs.2 i hi
  have hm : (rows.getD i [])[j]'(by omega) ∈ rows.getD i [] := List.getElem_mem _
  have h3 := List.any_eq_false.1 h1 _ hm
  have e : fn rows i j = (rows.getD i [])[j]'(by omega) := by unfold fn; simp only [List.getD_eq_getElem?_getD] at h2 ⊢; simp [h2, hj]
  rw [e]
  generalize (rows.getD i [])[j]'(by omega) = x at h3 ⊢
  simp [outB] at h3
  omega
theorem orders_law {rows : List (List Int)} {n : Nat} (hl : rows.length = n) (he : sqErr rows 5 (-9) 9 = 0) (h : ∀ i, i < n → anyOut 0 9 (rows.getD i []) = false) :
    0 ≤ permV rows ∧ absI (bareV rows) ≤ permV rows ∧ pairsV rows ≤ permV rows ∧ (pairsV rows = 0 ↔ permV rows = 0) := by
  subst hl
  have hp := pos_of (good_sq he) h
  have e1 : permV rows = G 1 rows.length (fn rows) := by unfold permV; rw [if_pos he, permN_G]
  have e2 : bareV rows = G (-1) rows.length (fn rows) := by unfold bareV; rw [if_pos he]
  have e3 : pairsV rows = G 1 rows.length (onesF (fn rows)) := by unfold pairsV; rw [if_pos he]
  rw [e1, e2, e3]
  obtain ⟨d1, d2⟩ := det_le_perm rows.length hp
  obtain ⟨o1, o2⟩ := ones_perm rows.length hp
  refine ⟨perm_nonneg _ hp, ?_, o1, o2⟩
  unfold absI
  split <;> omega

theorem orders_bad (a : Option Addr) (n cap : Nat) (rows : List (List Int)) (w : World) (hr : RowsAt w a n rows) (hcap : n ≤ cap) (hs : Small n rows) (he : sqErr rows 5 (-9) 9 ≠ 0) :
    Calls Try.prog 6 #[.slice a n cap] w fun e w' => e = .returned (.bool true) ∧ Below w.heap.size w w' := by
  have hO := PermFn_any a n cap rows w hr hcap hs
  obtain ⟨hv, hf⟩ := fact_three
  have hC := fun a (w : World) (h : RowsAt w a 2 [[0, 3], [-3, 0]]) => PfFn_any a 2 2 [[0, 3], [-3, 0]] w h (by omega) ⟨by omega, by intro k hk; match k, hk with | 0, _ => simp | 1, _ => simp⟩
  rw [hv, hf, errV_zero] at hC
  have hv : permV rows = 0 := by unfold permV; rw [if_neg he]
  have hE : errV (sqErr rows 5 (-9) 9) = .iface 48 (.int .i64 (sqErr rows 5 (-9) 9)) := by unfold errV; rw [if_neg he]
  rw [hv, hE] at hO
  generalize sqErr rows 5 (-9) 9 = e at *
  clear hr hs hE he hv hf
  go_enter Try.func6, Try.ntmps6
  go_wp2_with fail
  go_at_call 8
  refine (hO).mono ?_
  rintro e w1 ⟨rfl, hb⟩
  go_wp2_with fail
  go_at_call 17
  refine (hC _ _ (two_rows _ _ w1.heap.size (w1.heap.size + 1) (by go_simp) (by go_simp) _ _ _ _ (by go_simp) (by go_simp) (by go_simp) (by go_simp))).mono ?_
  rintro e w2 ⟨rfl, hb2⟩
  have hB2 : Below w1.heap.size w1 w2 := ((((Below.refl _ _).alloc (Nat.le_refl _) _).alloc (by simp) _).alloc (by simp; omega) _).trans (hb2.mono (by simp; omega))
  clear hb2 hC
  go_wp2_with fail
  go_ret
  exact ⟨rfl, below_trans hb hB2⟩

set_option maxHeartbeats 1000000 in
theorem orders_good (a : Option Addr) (n cap : Nat) (rows : List (List Int)) (w : World) (hr : RowsAt w a n rows) (hcap : n ≤ cap) (hs : Small n rows) (he : sqErr rows 5 (-9) 9 = 0) :
    Calls Try.prog 6 #[.slice a n cap] w fun e w' => e = .returned (.bool true) ∧ Below w.heap.size w w' := by
  have hO := PermFn_any a n cap rows w hr hcap hs
  have hD := fun w (h : RowsAt w a n rows) => BareFn_any a n cap rows w h hcap hs
  have hP := fun w (h : RowsAt w a n rows) => Pairs_any a n cap rows w h hs
  obtain ⟨hv, hf⟩ := fact_three
  have hC := fun a (w : World) (h : RowsAt w a 2 [[0, 3], [-3, 0]]) => PfFn_any a 2 2 [[0, 3], [-3, 0]] w h (by omega) ⟨by omega, by intro k hk; match k, hk with | 0, _ => simp | 1, _ => simp⟩
  rw [hv, hf, errV_zero] at hC
  rw [he, errV_zero] at hO hD hP
  have hl := hr.1
  have h1 := good_sq he
  obtain ⟨h4, h3, _⟩ := sqErr_good he
  rw [hl] at h1 h3 h4
  obtain ⟨hv1, hv2⟩ := permV_bd rows
  have hdb : -7085880 ≤ bareV rows ∧ bareV rows ≤ 7085880 := by
    unfold bareV
    rw [if_pos he, hl]
    have e1 := G_bd (-1) (Or.inr rfl) (B := 9) n (M := fn rows) (good_ent (B := 9) (by omega) he)
    have e2 := bnd9' (n := n) (by omega)
    omega
  have hpb := pairsV_bd rows
  have HLAW := Lib.hid (fun h => orders_law hl he h)
  obtain ⟨v, hvv⟩ : ∃ v, v = permV rows := ⟨_, rfl⟩
  obtain ⟨d, hdd⟩ : ∃ d, d = bareV rows := ⟨_, rfl⟩
  obtain ⟨q, hqq⟩ : ∃ q, q = pairsV rows := ⟨_, rfl⟩
  rw [← hvv] at hO hv1 hv2
  rw [← hdd] at hD hdb
  rw [← hqq] at hP hpb
  rw [← hvv, ← hdd, ← hqq] at HLAW
  have HR := Lib.hid hr
  have HS := Lib.hid h1
  obtain ⟨hd1, hd2⟩ := hdb
  clear hr hs he hv hf hl h1 hvv hdd hqq
  go_enter Try.func6, Try.ntmps6
  go_wp2_with fail
  go_at_call 8
  refine (hO).mono ?_
  rintro e w1 ⟨rfl, hb⟩
  go_wp2_with fail
  go_at_call 17
  refine (hC _ _ (two_rows _ _ w1.heap.size (w1.heap.size + 1) (by go_simp) (by go_simp) _ _ _ _ (by go_simp) (by go_simp) (by go_simp) (by go_simp))).mono ?_
  rintro e w2 ⟨rfl, hb2⟩
  have hB2 : Below w1.heap.size w1 w2 := ((((Below.refl _ _).alloc (Nat.le_refl _) _).alloc (by simp) _).alloc (by simp; omega) _).trans (hb2.mono (by simp; omega))
  have hB3 := below_trans hb hB2
  clear hb2 hC hb hB2 hO
  go_wp2_with fail
  go_loopg [7] (n + 1) (fun g i wr => ∃ k : Nat, k ≤ n ∧ n - k < g ∧ i = .int .i64 k ∧ (∀ p, p < k → anyOut 0 9 (rows.getD p []) = false) ∧ Below w.heap.size w wr)
  case atStart => exact ⟨0, by omega, by omega, rfl, fun p hp => by omega, hB3⟩
  case round =>
    obtain ⟨k, hk, hg, rfl, hall, hbel⟩ := hrel
    have HALL := Lib.hid hall
    clear hall hB3
    by_cases hlt : k < n
    · obtain ⟨b, off, ra, rc, rfl, hc, g1, g2, g3, g4⟩ := (HR.out.call hbel).2 k hlt
      rw [HS.out.2 k hlt] at hc g4
      have hA := RAll_any ra n rc (rows.getD k []) 0 9 wr g4 (by omega)
      have hk0 : (0 : Int) ≤ k := by omega
      have hk1 : (k : Int) < n := by omega
      clear g1 g2 g3 g4
      cases hao : anyOut 0 9 (rows.getD k [])
      · rw [hao] at hA
        have HAO := Lib.hid hao
        clear hao
        go_wp2_with fail
        go_at_call 18
        refine (hA).mono ?_
        rintro e w3 ⟨rfl, rfl⟩
        go_wp2_with fail
        go_roundg (n - k)
        case measure => omega
        case rel => exact ⟨k + 1, by omega, by omega, by go_num, fun p hp => by
          by_cases h : p < k
          · exact HALL.out p h
          · obtain rfl : p = k := by omega
            exact HAO.out, hbel⟩
      · rw [hao] at hA
        clear hao
        go_wp2_with fail
        go_at_call 18
        refine (hA).mono ?_
        rintro e w3 ⟨rfl, rfl⟩
        go_wp2_with fail
        go_ret
        exact ⟨rfl, hbel⟩
    · obtain rfl : k = n := by omega
      obtain ⟨l1, l2, l3, l4⟩ := HLAW.out HALL.out
      have hin := inB_yes (n := v) (lo := 0) (hi := 10000000) l1 (by omega)
      obtain ⟨t, ht⟩ : ∃ t, t = absI d := ⟨_, rfl⟩
      rw [← ht] at l2
      have HT := Lib.hid ht
      have hcase : (q == 0) = true ∧ (v == 0) = true ∨ (q == 0) = false ∧ (v == 0) = false := by
        by_cases h : q = 0
        · left; exact ⟨by simp [h], by simp [l4.1 h]⟩
        · right; exact ⟨by simp [h], by simp; intro h2; exact h (l4.2 h2)⟩
      clear ht l4
      rcases hcase with ⟨c1, c2⟩ | ⟨c1, c2⟩
      all_goals
        go_wp2_with fail
        go_at_call 19
        refine (hD _ (HR.out.call hbel)).mono ?_
        rintro e w4 ⟨rfl, hb4⟩
        have hB4 := below_trans hbel hb4
        clear hb4
        go_wp2_with fail
        go_at_call 14
        refine (hP _ (HR.out.call hB4)).mono ?_
        rintro e w5 ⟨rfl, hb5⟩
        have hB5 := below_trans hB4 hb5
        clear hb5
        go_wp2_with fail
        go_at_call 20
        refine (topin_any _ _ _ _).mono ?_
        rintro e w6 ⟨rfl, rfl⟩
        go_wp2_with fail
        go_at_call 21
        refine (RAbs_any _ _ (by omega) (by omega)).mono ?_
        rintro e w6 ⟨rfl, rfl⟩
        rw [← HT.out]
        go_wp2_with fail
        go_ret
        exact ⟨rfl, hB5⟩

theorem TopOrders_any (a : Option Addr) (n cap : Nat) (rows : List (List Int)) {w' : World} (hr : RowsAt w' a n rows) (hcap : n ≤ cap) (hs : Small n rows) (w : World) (e : w' = w) :
    Calls Try.prog 6 #[.slice a n cap] w fun e w' => e = .returned (.bool true) ∧ Below w.heap.size w w' := by
  subst e
  by_cases he : sqErr rows 5 (-9) 9 = 0
  · exact orders_good a n cap rows w' hr hcap hs he
  · exact orders_bad a n cap rows w' hr hcap hs he
theorem frame_own : ownKnob Try.prog.godebug = none := by kernel_rfl
theorem frame_laid : laidOutB Try.prog = true := by kernel_rfl
set_option maxRecDepth 100000 in
theorem frame_lifted (os : Os) (started : os.Started) (H : Type) (enc : TypeId × Value → H) :
    ReturnsInHanded {} Try.checked os 6 .any (Rows.topOrdersSpec.pre6 enc Try.prog Try.f6 Rows.topOrdersRow.domain false) (Rows.topOrdersSpec.post enc Try.prog Try.f6 false true false false) := by
  refine returnsInHanded_of_change (C := Try.checked) frame_own started (by kernel_rfl) Try.func6
    (ChangeSpec.witness6 (enc := enc) (C := Try.checked) false ⟨#[], #[.slice none 0 0], []⟩ 8 (by kernel_rfl) (by kernel_rfl) (by kernel_rfl) (by kernel_rfl)) ?_
  intro W base args ds gs before hval0 hW hcnd _
  have hval : ∀ (j : Nat) t v, Try.f6.params[j]? = some t → args[j]? = some v → Value.okWide Try.prog W .any base t v := hval0
  have hW' := hW
  obtain ⟨p, q, hA0, hV, rfl, hfz, hnd⟩ := hW
  have hA : DataW.TrodAll enc Try.prog W 0 (fun _ => true) true Try.f6.params.toList args.toList ds p := hA0
  rw [Try.params6] at hA hval
  obtain ⟨v0, vs0, d0, ds0, p0, q0, hargs, rfl, rfl, h0, r0⟩ := trodAll_cons hA
  obtain ⟨rfl, rfl, rfl⟩ := trodAll_nil r0
  obtain rfl : args = #[v0] := by cases args; simp_all
  obtain ⟨rfl, rfl⟩ := trodVars_none hV
  have k0 := h0
  have lt0 : ∀ x ∈ p0, x.block < W.heap.size := by obtain ⟨m, hm⟩ := k0; exact DataW.trod_lt m _ _ _ hm
  obtain ⟨a0, len0, cap0, rfl⟩ := okWide_slice Try.underlying22 (hval 0 22 v0 rfl rfl)
  obtain ⟨xs0, hxs0, hcap0, hmax0⟩ := open_rowsAt Try.underlying22 Try.underlying30 Try.underlying3 (by kernel_rfl) (by kernel_rfl) h0
  clear hA0 hval0
  refine (TopOrders_any a0 len0 cap0 xs0 hxs0 hcap0 hmax0 W rfl).mono fun e W' ⟨he, bel⟩ => ?_
  subst he
  exact ⟨_, rfl, _, _, _, [], _, [], hW', trodAll_mk1 (shut_bool Try.underlying4 _), (trodAll_cons_mk (Below.trod frame_laid (by kernel_rfl) (of_decide_eq_true (by kernel_rfl)) k0 bel lt0) trodAll_mk0), rfl, bel.frame _, fun h => by cases h⟩

theorem TopOrders_over : Rows.topOrdersRow.holds Try.pinned (OpenSpec.ofChange Rows.topOrdersSpec) :=
  OpenClaim.holds_of_wide 6 Try.f6 rfl rfl rfl rfl rfl rfl rfl ⟨rfl, rfl, rfl, rfl, rfl⟩ rfl rfl rfl rfl rfl (by kernel_rfl) Try.func6 (by kernel_rfl)
    (of_decide_eq_true (by kernel_rfl)) (by unfold Func.isWrapper; first | (rw [if_pos (by decide +kernel)]; kernel_rfl) | (rw [if_neg (by decide +kernel)]; exact ⟨rfl, rfl⟩))
    (fun os started H enc _ => frame_lifted os started H enc)

/-- THE STATEMENT -/
theorem TopOrders_holds : Rows.TopOrdersSaid := TopOrders_over
end Go.Proofs.Ytbicffgddheakaa.TopOrdersP
