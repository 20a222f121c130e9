/- It proves that rankmeretop.TopForests, called with any integer, any list of lists of integers and any integer, returns true, and leaves its arguments as they were. There are no conditions. -/
import Derived.Test.YtinekiclcccpbaaTree
import Derived.Test.YtinekiclcccpbaaForest
import Derived.Test.YtinekiclcccpbaaWithout
import Derived.Test.YtinekiclcccpbaaRMatrix
import Derived.Test.YtinekiclcccpbaaBareFn
import Derived.Test.YtinekiclcccpbaaLawIn
import Derived.Test.YtinekiclcccpbaaOpen
import Derived.ProofKit
import Derived.OpenShut
import Derived.ShutString
import Derived.ChangeOld
import Derived.Lib.SmallJoins
namespace Go.Proofs.Ytinekiclcccpbaa.TopForestsP
open Go.ChangeShapes Go.WideShapes Go.ChangeAt Go.RowKit Go.Joins
open Go.ChangeMaps (open_string shut_string)
open Go.Proofs.Ytinekiclcccpbaa
set_option linter.unusedVariables false
set_option linter.unusedSimpArgs false

theorem fact_two : treesV 2 [[0, 1], [1, 0]] = 2 ∧ treeErr 2 [[0, 1], [1, 0]] = 0 := by decide

theorem sk_inj {k a b : Nat} (h : sk k a = sk k b) : a = b := by
  unfold sk at h
  split at h <;> split at h <;> omega
/-- the matrix without any one row and its column -/
theorem bare_forest {m k : Nat} {ps : List (List Int)} (h : treeErr ((m + 1 : Nat) : Int) ps = 0) (hm : 0 < m) (hk : k < m + 1) (he : sqErr (lapOf (m + 1) ps) 6 (-9) 9 = 0) :
    Sq m (cut (lapOf (m + 1) ps) k k) ∧ sqErr (cut (lapOf (m + 1) ps) k k) 5 (-9) 9 = 0 ∧ bareV (cut (lapOf (m + 1) ps) k k) = treesV ((m + 1 : Nat) : Int) ps := by
  obtain ⟨h1, h2, h3, h4⟩ := treeErr_good h
  have hs := (lapOf_sq (m + 1) ps).cut hk hk
  have hent := (good_ent (B := 9) (by omega) he).cut k k
  have hq := sqErr_of (most := 5) hs hm (by omega) hent
  refine ⟨hs, hq, ?_⟩
  unfold bareV
  rw [if_pos hq, hs.1, fn_cut, trees_cnt h]
  unfold cnt
  rw [← cofactor_any (zeroSum_of h4) (sk k) (fun a b _ _ e => sk_inj e) (fun a ha => by unfold sk; split <;> omega)]
  refine G_congr _ _ (fun i j _ _ => ?_)
  exact fn_lapOf h4 _ _

theorem two_rows (w : World) (b b1 b2 : Nat) (h : w.cell? ⟨b, 0, none⟩ = some (.slice (some ⟨b1, 0, none⟩) 2 2)) (h' : w.cell? ⟨b, 1, none⟩ = some (.slice (some ⟨b2, 0, none⟩) 2 2)) (x y z t : Int)
    (h0 : w.cell? ⟨b1, 0, none⟩ = some (.int .i64 x)) (h1 : w.cell? ⟨b1, 1, none⟩ = some (.int .i64 y)) (h2 : w.cell? ⟨b2, 0, none⟩ = some (.int .i64 z)) (h3 : w.cell? ⟨b2, 1, none⟩ = some (.int .i64 t)) :
    RowsAt w (some ⟨b, 0, none⟩) 2 [[x, y], [z, t]] := by
  refine ⟨rfl, fun i hi => ?_⟩
  match i, hi with
  | 0, _ => exact ⟨_, 0, _, 2, rfl, h, by simp, by simp [maxLen], by simp, IntsAt_two _ _ _ _ h0 h1⟩
  | 1, _ => exact ⟨_, 0, _, 2, rfl, h', by simp, by simp [maxLen], by simp, IntsAt_two _ _ _ _ h2 h3⟩

theorem forests_bad (n : Int) (a : Option Addr) (m cap : Nat) (ps : List (List Int)) (k : Int) (w : World) (hr : RowsAt w a m ps) (hs : Small m ps) (he : treeErr n ps ≠ 0) :
    Calls Try.prog 5 #[.int .i64 n, .slice a m cap, .int .i64 k] w fun e w' => e = .returned (.bool true) ∧ Below w.heap.size w w' := by
  have hL := TLaplace_bad n a m cap ps w hr hs he
  obtain ⟨hv, hf⟩ := fact_two
  have hC := fun a (w : World) (h : RowsAt w a 2 [[0, 1], [1, 0]]) => TCount_any 2 a 2 2 [[0, 1], [1, 0]] w h ⟨by omega, by intro k hk; match k, hk with | 0, _ => simp | 1, _ => simp⟩
  rw [hv, hf, errV_zero] at hC
  generalize treeErr n ps = e at *
  clear hr hs he hv hf
  go_enter Try.func5, Try.ntmps5
  go_wp2_with fail
  go_at_call 9
  refine (hL).mono ?_
  rintro e w1 ⟨rfl, hb⟩
  go_wp2_with fail
  go_at_call 7
  refine (hC _ _ (two_rows _ _ w1.heap.size (w1.heap.size + 1) (by go_simp) (by go_simp) _ _ _ _ (by go_simp) (by go_simp) (by go_simp) (by go_simp))).mono ?_
  rintro e w2 ⟨rfl, hb2⟩
  have hB2 : Below w1.heap.size w1 w2 := ((((Below.refl _ _).alloc (Nat.le_refl _) _).alloc (by simp) _).alloc (by simp; omega) _).trans (hb2.mono (by simp; omega))
  clear hb2 hC
  go_wp2_with fail
  go_ret
  exact ⟨rfl, below_trans hb hB2⟩

set_option maxHeartbeats 1000000 in
theorem forests_good (n : Int) (a : Option Addr) (m cap : Nat) (ps : List (List Int)) (k : Int) (w : World) (hr : RowsAt w a m ps) (hs : Small m ps) (he : treeErr n ps = 0) :
    Calls Try.prog 5 #[.int .i64 n, .slice a m cap, .int .i64 k] w fun e w' => e = .returned (.bool true) ∧ Below w.heap.size w w' := by
  have hL := TLaplace_good n a m cap ps w hr hs he
  have hT := fun w (h : RowsAt w a m ps) => TCount_any n a m cap ps w h hs
  obtain ⟨h1, h2, h3, h4⟩ := treeErr_good he
  obtain ⟨N, rfl⟩ : ∃ N : Nat, n = ((N + 1 : Nat) : Int) := ⟨(n - 1).toNat, by omega⟩
  obtain ⟨hv, hf⟩ := fact_two
  have hC := fun a (w : World) (h : RowsAt w a 2 [[0, 1], [1, 0]]) => TCount_any 2 a 2 2 [[0, 1], [1, 0]] w h ⟨by omega, by intro k hk; match k, hk with | 0, _ => simp | 1, _ => simp⟩
  rw [hv, hf, errV_zero] at hC
  rw [he, errV_zero] at hT
  simp only [Int.toNat_natCast] at hL
  have HE := Lib.hid he
  have HR := Lib.hid hr
  have hsq := lapOf_sq (N + 1) ps
  have HSQ := Lib.hid hsq
  obtain ⟨v, hvv⟩ : ∃ v, v = treesV ((N + 1 : Nat) : Int) ps := ⟨_, rfl⟩
  rw [← hvv] at hT
  have HV := Lib.hid hvv
  clear hr hs he hv hf h4 hsq hvv
  have hN1 : (N : Int) + 1 ≤ 6 := by omega
  have hN0 : (0 : Int) ≤ N := by omega
  go_enter Try.func5, Try.ntmps5
  go_wp2_with fail
  go_at_call 9
  refine (hL).mono ?_
  rintro e w1 ⟨⟨Gm, vs, rfl, hlap⟩, hb⟩
  have HLAP := Lib.hid hlap
  clear hL hlap
  go_wp2_with fail
  go_at_call 7
  refine (hC _ _ (two_rows _ _ w1.heap.size (w1.heap.size + 1) (by go_simp) (by go_simp) _ _ _ _ (by go_simp) (by go_simp) (by go_simp) (by go_simp))).mono ?_
  rintro e w2 ⟨rfl, hb2⟩
  have hB2 : Below w1.heap.size w1 w2 := ((((Below.refl _ _).alloc (Nat.le_refl _) _).alloc (by simp) _).alloc (by simp; omega) _).trans (hb2.mono (by simp; omega))
  have hB3 := below_trans hb hB2
  have HLP := Lib.hid (HLAP.out.call hB2)
  clear hb2 hC hb hB2
  go_wp2_with fail
  go_at_call 7
  refine (hT _ (HR.out.call hB3)).mono ?_
  rintro e w3 ⟨rfl, hb3⟩
  have hB4 := below_trans hB3 hb3
  have HLP2 := Lib.hid (HLP.out.call hb3)
  have hra := HLP2.out.read
  rw [HSQ.out.1] at hra
  have HRA := Lib.hid hra
  clear hB3 hb3 hT hra
  go_wp2_with fail
  go_at_call 13
  refine (topin_any _ _ _ _).mono ?_
  rintro e w4 ⟨rfl, rfl⟩
  cases hbi : inB k 0 (N : Int)
  · go_wp2_with fail
    go_ret
    exact ⟨rfl, hB4⟩
  obtain ⟨hk0, hk1⟩ := inB_true hbi
  obtain ⟨p, rfl⟩ := Int.eq_ofNat_of_zero_le hk0
  have hp : p < N + 1 := by omega
  by_cases hN : N = 0
  · subst hN
    go_wp2_with fail
    go_ret
    exact ⟨rfl, hB4⟩
  · have hN2 : ((N : Int) + 1 < 2) = False := by simp; omega
    have hN3 : (2 : Int) ≤ (N : Int) + 1 := by omega
    have hS := RSquare_any _ (N + 1) (N + 1) _ 6 (-9) 9 w3 HRA.out (by omega) (by omega) (by omega) (fun j hj => by rw [HSQ.out.2 j hj]; omega)
    clear hbi
    go_wp2_with fail
    go_at_call 14
    refine hS.mono ?_
    rintro e w4 ⟨rfl, hb4⟩
    have hB5 := below_trans hB4 hb4
    clear hS
    by_cases hq : sqErr (lapOf (N + 1) ps) 6 (-9) 9 = 0
    · obtain ⟨g1, g2, g3⟩ := bare_forest HE.out (by omega) hp hq
      rw [hq]
      rw [← HV.out] at g3
      have G1 := Lib.hid g1
      have G2 := Lib.hid g2
      have G3 := Lib.hid g3
      clear hq g1 g2 g3
      go_wp2_with fail
      go_at_call 16
      refine (Without_any _ (N + 1) (N + 1) _ _ _ _ _ (HRA.out.call hb4) (by omega) (by omega) (Nat.le_refl _) HSQ.out.2 (by omega) (by omega)).mono ?_
      rintro e w5 ⟨⟨vw, rfl, hw⟩, hb5⟩
      simp only [Int.toNat_natCast] at hw
      obtain ⟨a5, cap5, rfl, hc5, hc5', hra5⟩ := hw.rowsAt
      rw [G1.out.1] at hc5 hra5 ⊢
      have hO := BareFn_any a5 N cap5 _ w5 hra5 hc5 ⟨by omega, fun j hj => by rw [G1.out.2 j hj]; omega⟩
      rw [G2.out, G3.out, errV_zero] at hO
      have hB6 := below_trans hB5 hb5
      clear hw hra5 hb5 hB5 hB4 hb4
      go_wp2_with fail
      go_at_call 15
      refine (hO).mono ?_
      rintro e w6 ⟨rfl, hb6⟩
      go_wp2_with fail
      go_ret
      exact ⟨rfl, below_trans hB6 hb6⟩
    · have hqb : (sqErr (lapOf (N + 1) ps) 6 (-9) 9 != 0) = true := by simp [hq]
      go_wp2_with fail
      go_ret
      exact ⟨rfl, hB5⟩

theorem TopForests_any (n : Int) (a : Option Addr) (m cap : Nat) (ps : List (List Int)) {w' : World} (hr : RowsAt w' a m ps) (hcap : m ≤ cap) (hs : Small m ps) (k : Int) (w : World) (e : w' = w) :
    Calls Try.prog 5 #[.int .i64 n, .slice a m cap, .int .i64 k] w fun e w' => e = .returned (.bool true) ∧ Below w.heap.size w w' := by
  subst e
  by_cases he : treeErr n ps = 0
  · exact forests_good n a m cap ps k w' hr hs he
  · exact forests_bad n a m cap ps k w' hr hs he
theorem frame_own : ownKnob Try.prog.godebug = none := by kernel_rfl
theorem frame_laid : laidOutB Try.prog = true := by kernel_rfl
set_option maxRecDepth 100000 in
theorem frame_lifted (os : Os) (started : os.Started) (H : Type) (enc : TypeId × Value → H) :
    ReturnsInHanded {} Try.checked os 5 .any (Rows.topForestsSpec.pre6 enc Try.prog Try.f5 Rows.topForestsRow.domain false) (Rows.topForestsSpec.post enc Try.prog Try.f5 false true false false) := by
  refine returnsInHanded_of_change (C := Try.checked) frame_own started (by kernel_rfl) Try.func5
    (ChangeSpec.witness6 (enc := enc) (C := Try.checked) false ⟨#[], #[.int .i64 0, .slice none 0 0, .int .i64 0], []⟩ 8 (by kernel_rfl) (by kernel_rfl) (by kernel_rfl) (by kernel_rfl)) ?_
  intro W base args ds gs before hval0 hW hcnd _
  have hval : ∀ (j : Nat) t v, Try.f5.params[j]? = some t → args[j]? = some v → Value.okWide Try.prog W .any base t v := hval0
  have hW' := hW
  obtain ⟨p, q, hA0, hV, rfl, hfz, hnd⟩ := hW
  have hA : DataW.TrodAll enc Try.prog W 0 (fun _ => true) true Try.f5.params.toList args.toList ds p := hA0
  rw [Try.params5] at hA hval
  obtain ⟨v0, vs0, d0, ds0, p0, q0, hargs, rfl, rfl, h0, r0⟩ := trodAll_cons hA
  obtain ⟨v1, vs1, d1, ds1, p1, q1, rfl, rfl, rfl, h1, r1⟩ := trodAll_cons r0
  obtain ⟨v2, vs2, d2, ds2, p2, q2, rfl, rfl, rfl, h2, r2⟩ := trodAll_cons r1
  obtain ⟨rfl, rfl, rfl⟩ := trodAll_nil r2
  obtain rfl : args = #[v0, v1, v2] := by cases args; simp_all
  obtain ⟨rfl, rfl⟩ := trodVars_none hV
  have k0 := h0
  have lt0 : ∀ x ∈ p0, x.block < W.heap.size := by obtain ⟨m, hm⟩ := k0; exact DataW.trod_lt m _ _ _ hm
  obtain ⟨a0, rfl, rfl, rfl, w0⟩ := open_int Try.underlying3 (hval 0 3 v0 rfl rfl) h0
  have k1 := h1
  have lt1 : ∀ x ∈ p1, x.block < W.heap.size := by obtain ⟨m, hm⟩ := k1; exact DataW.trod_lt m _ _ _ hm
  obtain ⟨a1, len1, cap1, rfl⟩ := okWide_slice Try.underlying22 (hval 1 22 v1 rfl rfl)
  obtain ⟨xs1, hxs1, hcap1, hmax1⟩ := open_rowsAt Try.underlying22 Try.underlying29 Try.underlying3 (by kernel_rfl) (by kernel_rfl) h1
  have k2 := h2
  have lt2 : ∀ x ∈ p2, x.block < W.heap.size := by obtain ⟨m, hm⟩ := k2; exact DataW.trod_lt m _ _ _ hm
  obtain ⟨a2, rfl, rfl, rfl, w2⟩ := open_int Try.underlying3 (hval 2 3 v2 rfl rfl) h2
  clear hA0 hval0
  refine (TopForests_any a0 a1 len1 cap1 xs1 hxs1 hcap1 hmax1 a2 W rfl).mono fun e W' ⟨he, bel⟩ => ?_
  subst he
  exact ⟨_, rfl, _, _, _, [], _, [], hW', trodAll_mk1 (shut_bool Try.underlying4 _), (trodAll_cons_mk (Below.trod frame_laid (by kernel_rfl) (of_decide_eq_true (by kernel_rfl)) k0 bel lt0) (trodAll_cons_mk (Below.trod frame_laid (by kernel_rfl) (of_decide_eq_true (by kernel_rfl)) k1 bel lt1) (trodAll_cons_mk (Below.trod frame_laid (by kernel_rfl) (of_decide_eq_true (by kernel_rfl)) k2 bel lt2) trodAll_mk0))), rfl, bel.frame _, fun h => by cases h⟩

theorem TopForests_over : Rows.topForestsRow.holds Try.pinned (OpenSpec.ofChange Rows.topForestsSpec) :=
  OpenClaim.holds_of_wide 5 Try.f5 rfl rfl rfl rfl rfl rfl rfl ⟨rfl, rfl, rfl, rfl, rfl⟩ rfl rfl rfl rfl rfl (by kernel_rfl) Try.func5 (by kernel_rfl)
    (of_decide_eq_true (by kernel_rfl)) (by unfold Func.isWrapper; first | (rw [if_pos (by decide +kernel)]; kernel_rfl) | (rw [if_neg (by decide +kernel)]; exact ⟨rfl, rfl⟩))
    (fun os started H enc _ => frame_lifted os started H enc)

/-- THE STATEMENT -/
theorem TopForests_holds : Rows.TopForestsSaid := TopForests_over
end Go.Proofs.Ytinekiclcccpbaa.TopForestsP
