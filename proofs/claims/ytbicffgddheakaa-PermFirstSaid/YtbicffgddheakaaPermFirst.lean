/- It proves that rankmerelaw4.PermFirst, called with any list of lists of integers and any integer, returns true, and leaves its arguments as they were. There are no conditions. -/
import Derived.Test.YtbicffgddheakaaPermFact
import Derived.Test.YtbicffgddheakaaWithout
import Derived.Test.YtbicffgddheakaaSqOf
import Derived.Test.YtbicffgddheakaaLawIn
import Derived.Test.YtbicffgddheakaaOpen
import Derived.ProofKit
import Derived.OpenShut
import Derived.ShutString
import Derived.ChangeOld
import Derived.Lib.SmallJoins
namespace Go.Proofs.Ytbicffgddheakaa.PermFirstP
open Go.ChangeShapes Go.WideShapes Go.ChangeAt Go.RowKit Go.Joins
open Go.ChangeMaps (open_string shut_string)
open Go.Proofs.Ytbicffgddheakaa
set_option linter.unusedVariables false
set_option linter.unusedSimpArgs false

/-- one row tells all -/
theorem perm_row {n p : Nat} (rows : List (List Int)) (hp : p < n + 1) : permN (n + 1) rows = sumTo (fun j => fn rows p j * permN n (cut rows p j)) (n + 1) := by
  rw [permN_G, G_row 1 (by decide) p n (fn rows) hp, pw_one, Int.one_mul]
  refine sumTo_congr fun j hj => ?_
  rw [pw_one, Int.one_mul, permN_G, fn_cut]

theorem first_bad (a : Option Addr) (n cap : Nat) (rows : List (List Int)) (i : Int) (w : World) (hr : RowsAt w a n rows) (hcap : n ≤ cap) (hs : Small n rows) (he : sqErr rows 5 (-9) 9 ≠ 0) :
    Calls Try.prog 4 #[.slice a n cap, .int .i64 i] w fun e w' => e = .returned (.bool true) ∧ Below w.heap.size w w' := by
  have hO := fun w (h : RowsAt w a n rows) => PermFn_any a n cap rows w h hcap hs
  have HR := Lib.hid hr
  have hv : permV rows = 0 := by unfold permV; rw [if_neg he]
  have hE : errV (sqErr rows 5 (-9) 9) = .iface 48 (.int .i64 (sqErr rows 5 (-9) 9)) := by unfold errV; rw [if_neg he]
  rw [hv, hE] at hO
  generalize sqErr rows 5 (-9) 9 = e at *
  clear hr hs hE he hv
  go_enter Try.func4, Try.ntmps4
  go_wp2_with fail
  go_at_call 7
  refine (permFact_any _).mono ?_
  rintro e w1 ⟨rfl, hb⟩
  go_wp2_with fail
  go_at_call 8
  refine (hO _ (HR.out.call hb)).mono ?_
  rintro e w2 ⟨rfl, hb2⟩
  go_wp2_with fail
  go_ret
  exact ⟨rfl, below_trans hb hb2⟩

set_option maxHeartbeats 1000000 in
theorem first_good (a : Option Addr) (n cap : Nat) (rows : List (List Int)) (i : Int) (w : World) (hr : RowsAt w a n rows) (hcap : n ≤ cap) (hs : Small n rows) (he : sqErr rows 5 (-9) 9 = 0) :
    Calls Try.prog 4 #[.slice a n cap, .int .i64 i] w fun e w' => e = .returned (.bool true) ∧ Below w.heap.size w w' := by
  have hO := fun w (h : RowsAt w a n rows) => PermFn_any a n cap rows w h hcap hs
  have hl := hr.1
  have h1 := good_sq he
  have h2 := good_ent (B := 9) (by omega) he
  obtain ⟨h4, h3, _⟩ := sqErr_good he
  rw [hl] at h1 h3 h4
  have hsm : ∀ k A, k ≤ 5 → Sq k A → Small k A := fun k A hk hA => ⟨by omega, fun j hj => by rw [hA.2 j hj]; omega⟩
  obtain ⟨hv1, hv2⟩ := permV_bd rows
  rw [he, errV_zero] at hO
  have HR := Lib.hid hr
  have HS := Lib.hid h1
  have HN := Lib.hid h2
  have HE := Lib.hid he
  have HL := Lib.hid hl
  obtain ⟨v, hv⟩ : ∃ v, v = permV rows := ⟨_, rfl⟩
  rw [← hv] at hO hv1 hv2
  have HV := Lib.hid hv
  have hn1 : (1 : Int) ≤ n := by omega
  clear hr hs he hl h1 h2 hv
  go_enter Try.func4, Try.ntmps4
  go_wp2_with fail
  go_at_call 7
  refine (permFact_any _).mono ?_
  rintro e w1 ⟨rfl, hb⟩
  go_wp2_with fail
  go_at_call 8
  refine (hO _ (HR.out.call hb)).mono ?_
  rintro e w2 ⟨rfl, hb2⟩
  have hB2 := below_trans hb hb2
  clear hb hb2 hO
  go_wp2_with fail
  go_at_call 10
  refine (in_any _ _ _ _).mono ?_
  rintro e w5 ⟨rfl, rfl⟩
  cases hbi : inB i 0 ((n : Int) - 1)
  · go_wp2_with fail
    go_ret
    exact ⟨rfl, hB2⟩
  obtain ⟨hi0, hi1⟩ := inB_true hbi
  obtain ⟨p, rfl⟩ := Int.eq_ofNat_of_zero_le hi0
  have hp : p < n := by omega
  have hp1 : (p : Int) < n := by omega
  clear hbi
  by_cases hn : n = 1
  · subst hn
    have hv0 : v = (rows.getD 0 []).getD 0 0 := by
      rw [HV.out]
      unfold permV
      rw [if_pos HE.out, HL.out]
      simp [permN, sumTo]
    obtain ⟨b, off, rfl, hb⟩ := HR.out.some (by omega)
    obtain ⟨b0, o0, rc0, hm, hmc⟩ := HR.out.elem (i := 0) (by omega) (j := 0) (by rw [HS.out.2 0 (by omega)]; omega)
    rw [HS.out.2 0 (by omega)] at hm
    have hb0 : b0 < w.heap.size := World.block_lt_of_cell? _ _ hmc
    rw [← hB2.cell (p := ⟨b, off + 0, none⟩) hb] at hm
    rw [← hB2.cell (p := ⟨b0, o0 + 0, none⟩) hb0, ← hv0] at hmc
    rw [Nat.add_zero] at hm hmc
    clear hv0
    go_wp2_with fail
    go_ret
    exact ⟨by simp, hB2⟩
  · have hnb : ((n : Int) == 1) = false := by simp; omega
    obtain ⟨m, rfl⟩ : ∃ m, n = m + 1 := ⟨n - 1, by omega⟩
    have hnb2 : ((m : Int) + 1 == 1) = false := by simp; omega
    clear hnb
    go_wp2_with fail
    go_loopg [8, 9] (m + 2) (fun g s i wr => ∃ k : Nat, k ≤ m + 1 ∧ m + 1 - k < g ∧ s = .int .i64 (sumTo (fun j => fn rows p j * permN m (cut rows p j)) k) ∧ i = .int .i64 k ∧ Below w.heap.size w wr)
    case atStart => exact ⟨0, by omega, by omega, rfl, rfl, hB2⟩
    case round =>
      obtain ⟨k, hk, hg, rfl, rfl, hbel⟩ := hrel
      have hsb : ∀ j, j < m + 1 → -(9 * 7085880) ≤ fn rows p j * permN m (cut rows p j) ∧ fn rows p j * permN m (cut rows p j) ≤ 9 * 7085880 := by
        intro j hj
        have e1 := HN.out p j
        have e2 := permN_bd m (HN.out.cut p j)
        have e3 := bnd9 (n := m) (by omega)
        exact bd_mul e1.1 e1.2 (by omega) (by omega)
      have hsum := sumTo_bd (n := k) (fun j hj => hsb j (by omega))
      have hsb' := Lib.hid hsb
      obtain ⟨P, hP⟩ : ∃ P, P = sumTo (fun j => fn rows p j * permN m (cut rows p j)) k := ⟨_, rfl⟩
      rw [← hP] at hsum ⊢
      obtain ⟨hsum1, hsum2⟩ := hsum
      have hkk : (k : Int) * (9 * 7085880) ≤ 400000000 := by omega
      have hP1 : -400000000 ≤ P := by omega
      have hP2 : P ≤ 400000000 := by omega
      have HP := Lib.hid hP
      clear hsum1 hsum2 hkk hP hsb
      by_cases hlt : k < m + 1
      · obtain ⟨b, off, rfl, hb⟩ := HR.out.some (by omega)
        obtain ⟨b0, o0, rc0, hm, hmc⟩ := HR.out.elem (i := p) hp (j := k) (by rw [HS.out.2 p hp]; exact hlt)
        rw [HS.out.2 p hp] at hm
        have hb0 : b0 < w.heap.size := World.block_lt_of_cell? _ _ hmc
        obtain ⟨x, hx⟩ : ∃ x, x = fn rows p k := ⟨_, rfl⟩
        rw [show (rows.getD p []).getD k 0 = x from hx.symm] at hmc
        obtain ⟨y, hy⟩ : ∃ y, y = permN m (cut rows p k) := ⟨_, rfl⟩
        have hxy := hsb'.out k hlt
        rw [← hx, ← hy] at hxy
        obtain ⟨hxy1, hxy2⟩ := hxy
        have hcs := HS.out.cut hp hlt
        have hent := HN.out.cut p k
        have hsq0 := sqErr_of (most := 5) hcs (by omega) (by omega) hent
        have hyv : permV (cut rows p k) = y := by unfold permV; rw [if_pos hsq0, hcs.1, ← hy]
        have hyb := permV_bd (cut rows p k)
        rw [hyv] at hyb
        obtain ⟨hyb1, hyb2⟩ := hyb
        have hin := inB_yes (n := y) (lo := -10000000) (hi := 10000000) (by omega) (by omega)
        have HX := Lib.hid hx
        have HY := Lib.hid hy
        have HCS := Lib.hid hcs
        have HSQ0 := Lib.hid hsq0
        have HYV := Lib.hid hyv
        clear hx hy hcs hent hsq0 hyv
        go_wp2_with fail
        go_at_call 13
        refine (Without_any _ (m + 1) (m + 1) _ rows _ _ _ (HR.out.call hbel) (by omega) (by omega) hcap HS.out.2 (by omega) (by omega)).mono ?_
        rintro e w3 ⟨⟨vw, rfl, hw⟩, hb3⟩
        simp only [Int.toNat_natCast] at hw
        obtain ⟨a3, cap3, rfl, hc3, hc3', hra3⟩ := hw.rowsAt
        rw [HCS.out.1] at hc3 hra3 ⊢
        have hO := PermFn_any a3 m cap3 _ w3 hra3 hc3 (hsm m _ (by omega) HCS.out)
        rw [HYV.out, HSQ0.out, errV_zero] at hO
        have hB3 := below_trans hbel hb3
        clear hw hra3 hb3
        go_wp2_with fail
        go_at_call 8
        refine (hO).mono ?_
        rintro e w4 ⟨rfl, hb4⟩
        have hB4 := below_trans hB3 hb4
        clear hb4 hB3
        go_wp2_with fail
        go_at_call 10
        refine (in_any _ _ _ _).mono ?_
        rintro e w5 ⟨rfl, rfl⟩
        have hm5 : w4.cell? ⟨b, off + p, none⟩ = some (.slice (some ⟨b0, o0, none⟩) (m + 1) rc0) := by rw [hB4.cell (p := ⟨b, off + p, none⟩) hb]; exact hm
        have hmc5 : w4.cell? ⟨b0, o0 + k, none⟩ = some (.int .i64 x) := by rw [hB4.cell (p := ⟨b0, o0 + k, none⟩) hb0]; exact hmc
        clear hm hmc
        go_wp2_with fail
        go_roundg (m + 1 - k)
        case measure => omega
        case rel => exact ⟨k + 1, by omega, by omega, by rw [sumTo, ← HP.out, ← HX.out, ← HY.out], by go_num, hB4⟩
      · obtain rfl : k = m + 1 := by omega
        have hfin : P = v := by
          rw [HP.out, HV.out]
          unfold permV
          rw [if_pos HE.out, HL.out, perm_row rows hp]
        subst hfin
        go_wp2_with fail
        go_ret
        exact ⟨by simp, hbel⟩

theorem PermFirst_any (a : Option Addr) (n cap : Nat) (rows : List (List Int)) {w' : World} (hr : RowsAt w' a n rows) (hcap : n ≤ cap) (hs : Small n rows) (i : Int) (w : World) (e : w' = w) :
    Calls Try.prog 4 #[.slice a n cap, .int .i64 i] w fun e w' => e = .returned (.bool true) ∧ Below w.heap.size w w' := by
  subst e
  by_cases he : sqErr rows 5 (-9) 9 = 0
  · exact first_good a n cap rows i w' hr hcap hs he
  · exact first_bad a n cap rows i w' hr hcap hs he
theorem frame_own : ownKnob Try.prog.godebug = none := by kernel_rfl
theorem frame_laid : laidOutB Try.prog = true := by kernel_rfl
set_option maxRecDepth 100000 in
theorem frame_lifted (os : Os) (started : os.Started) (H : Type) (enc : TypeId × Value → H) :
    ReturnsInHanded {} Try.checked os 4 .any (Rows.permFirstSpec.pre6 enc Try.prog Try.f4 Rows.permFirstRow.domain false) (Rows.permFirstSpec.post enc Try.prog Try.f4 false true false false) := by
  refine returnsInHanded_of_change (C := Try.checked) frame_own started (by kernel_rfl) Try.func4
    (ChangeSpec.witness6 (enc := enc) (C := Try.checked) false ⟨#[], #[.slice none 0 0, .int .i64 0], []⟩ 8 (by kernel_rfl) (by kernel_rfl) (by kernel_rfl) (by kernel_rfl)) ?_
  intro W base args ds gs before hval0 hW hcnd _
  have hval : ∀ (j : Nat) t v, Try.f4.params[j]? = some t → args[j]? = some v → Value.okWide Try.prog W .any base t v := hval0
  have hW' := hW
  obtain ⟨p, q, hA0, hV, rfl, hfz, hnd⟩ := hW
  have hA : DataW.TrodAll enc Try.prog W 0 (fun _ => true) true Try.f4.params.toList args.toList ds p := hA0
  rw [Try.params4] at hA hval
  obtain ⟨v0, vs0, d0, ds0, p0, q0, hargs, rfl, rfl, h0, r0⟩ := trodAll_cons hA
  obtain ⟨v1, vs1, d1, ds1, p1, q1, rfl, rfl, rfl, h1, r1⟩ := trodAll_cons r0
  obtain ⟨rfl, rfl, rfl⟩ := trodAll_nil r1
  obtain rfl : args = #[v0, v1] := by cases args; simp_all
  obtain ⟨rfl, rfl⟩ := trodVars_none hV
  have k0 := h0
  have lt0 : ∀ x ∈ p0, x.block < W.heap.size := by obtain ⟨m, hm⟩ := k0; exact DataW.trod_lt m _ _ _ hm
  obtain ⟨a0, len0, cap0, rfl⟩ := okWide_slice Try.underlying22 (hval 0 22 v0 rfl rfl)
  obtain ⟨xs0, hxs0, hcap0, hmax0⟩ := open_rowsAt Try.underlying22 Try.underlying30 Try.underlying3 (by kernel_rfl) (by kernel_rfl) h0
  have k1 := h1
  have lt1 : ∀ x ∈ p1, x.block < W.heap.size := by obtain ⟨m, hm⟩ := k1; exact DataW.trod_lt m _ _ _ hm
  obtain ⟨a1, rfl, rfl, rfl, w1⟩ := open_int Try.underlying3 (hval 1 3 v1 rfl rfl) h1
  clear hA0 hval0
  refine (PermFirst_any a0 len0 cap0 xs0 hxs0 hcap0 hmax0 a1 W rfl).mono fun e W' ⟨he, bel⟩ => ?_
  subst he
  exact ⟨_, rfl, _, _, _, [], _, [], hW', trodAll_mk1 (shut_bool Try.underlying4 _), (trodAll_cons_mk (Below.trod frame_laid (by kernel_rfl) (of_decide_eq_true (by kernel_rfl)) k0 bel lt0) (trodAll_cons_mk (Below.trod frame_laid (by kernel_rfl) (of_decide_eq_true (by kernel_rfl)) k1 bel lt1) trodAll_mk0)), rfl, bel.frame _, fun h => by cases h⟩

theorem PermFirst_over : Rows.permFirstRow.holds Try.pinned (OpenSpec.ofChange Rows.permFirstSpec) :=
  OpenClaim.holds_of_wide 4 Try.f4 rfl rfl rfl rfl rfl rfl rfl ⟨rfl, rfl, rfl, rfl, rfl⟩ rfl rfl rfl rfl rfl (by kernel_rfl) Try.func4 (by kernel_rfl)
    (of_decide_eq_true (by kernel_rfl)) (by unfold Func.isWrapper; first | (rw [if_pos (by decide +kernel)]; kernel_rfl) | (rw [if_neg (by decide +kernel)]; exact ⟨rfl, rfl⟩))
    (fun os started H enc _ => frame_lifted os started H enc)

/-- THE STATEMENT -/
theorem PermFirst_holds : Rows.PermFirstSaid := PermFirst_over
end Go.Proofs.Ytbicffgddheakaa.PermFirstP
