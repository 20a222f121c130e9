/- It proves that rankmerelaw4.TreeRows, called with any integer and any list of lists of integers, returns true, and leaves its arguments as they were. There are no conditions. -/
import Derived.Test.YtinekiclcccpbaaTreeFact
import Derived.Test.YtinekiclcccpbaaSum
import Derived.Test.YtinekiclcccpbaaSame
import Derived.Test.YtinekiclcccpbaaFlip
import Derived.Test.YtinekiclcccpbaaOpen
import Derived.ProofKit
import Derived.OpenShut
import Derived.ShutString
import Derived.ChangeOld
import Derived.Lib.SmallJoins
namespace Go.Proofs.Ytinekiclcccpbaa.TreeRowsP
open Go.ChangeShapes Go.WideShapes Go.ChangeAt Go.RowKit Go.Joins
open Go.ChangeMaps (open_string shut_string)
open Go.Proofs.Ytinekiclcccpbaa
set_option linter.unusedVariables false
set_option linter.unusedSimpArgs false

theorem rows_bad {n : Int} (a : Option Addr) (m cap : Nat) (ps : List (List Int)) (w : World) (hr : RowsAt w a m ps) (hs : Small m ps) (he : treeErr n ps ≠ 0) :
    Calls Try.prog 4 #[.int .i64 n, .slice a m cap] w fun e w' => e = .returned (.bool true) ∧ Below w.heap.size w w' := by
  have hL := fun w (h : RowsAt w a m ps) => TLaplace_bad n a m cap ps w h hs he
  have HR := Lib.hid hr
  generalize treeErr n ps = e at *
  clear hr hs he
  go_enter Try.func4, Try.ntmps4
  go_wp2_with fail
  go_at_call 6
  refine (treeFact_any _).mono ?_
  rintro e w1 ⟨rfl, hb⟩
  go_wp2_with fail
  go_at_call 9
  refine (hL _ (HR.out.call hb)).mono ?_
  rintro e w2 ⟨rfl, hb2⟩
  go_wp2_with fail
  go_ret
  exact ⟨rfl, below_trans hb hb2⟩

/-- the Laplacian matrix, turned -/
theorem lap_flip {n : Nat} {rows : List (List Int)} {k : Nat} (h : Lap n k rows) : flipTo rows n n = rows := by
  apply List.ext_getElem
  · rw [flipTo_len, h.sq.1]
  · intro i h1 h2
    rw [flipTo_len] at h1
    have e : (flipTo rows n n)[i] = colTo rows i n := by simp [flipTo]
    rw [e]
    apply List.ext_getElem
    · rw [colTo_len]
      have := h.sq.2 i h1
      simp [List.getD, h2] at this
      exact this.symm
    · intro j h3 h4
      rw [colTo_len] at h3
      have e2 : (colTo rows i n)[j] = (rows.getD j []).getD i 0 := by simp [colTo]
      rw [e2]
      have := h.sym j i
      simp only [fn] at this
      rw [this]
      simp [List.getD, h2, h4]

theorem trace_bd {n : Nat} {rows : List (List Int)} (hn : n ≤ 6) (he : Ent 100 rows) : ∀ k, k ≤ n → -1000 ≤ sumTo (fun p => fn rows p p) k ∧ sumTo (fun p => fn rows p p) k ≤ 1000 := by
  intro k hk
  have := sumTo_bd (f := fun p => fn rows p p) (B := 100) (n := k) (fun i _ => he i i)
  omega

set_option maxHeartbeats 1000000 in
theorem rows_good {n : Int} (a : Option Addr) (m cap : Nat) (ps : List (List Int)) (w : World) (hr : RowsAt w a m ps) (hs : Small m ps) (he : treeErr n ps = 0) :
    Calls Try.prog 4 #[.int .i64 n, .slice a m cap] w fun e w' => e = .returned (.bool true) ∧ Below w.heap.size w w' := by
  have hL := fun w (h : RowsAt w a m ps) => TLaplace_good n a m cap ps w h hs he
  obtain ⟨h1, h2, h3, h4⟩ := treeErr_good he
  obtain ⟨N, rfl⟩ := Int.eq_ofNat_of_zero_le (show 0 ≤ n by omega)
  simp only [Int.toNat_natCast] at hL
  have HR := Lib.hid hr
  have hlap := lap_of h4
  have hent : Ent 100 (lapOf N ps) := ent_mono (ent_lapOf h4) (by omega)
  have hml := hr.1
  rw [hml] at hlap h3
  have HLAP := Lib.hid hlap
  have HE := Lib.hid hent
  obtain ⟨rows, hrows⟩ : ∃ r, r = lapOf N ps := ⟨_, rfl⟩
  rw [← hrows] at HLAP HE hL
  clear hr hs he h4 hlap hent hml hrows
  go_enter Try.func4, Try.ntmps4
  go_wp2_with fail
  go_at_call 6
  refine (treeFact_any _).mono ?_
  rintro e w1 ⟨rfl, hb⟩
  go_wp2_with fail
  go_at_call 9
  refine (hL _ (HR.out.call hb)).mono ?_
  rintro e w2 ⟨⟨G, vs, rfl, hv⟩, hb2⟩
  have hbel := below_trans hb hb2
  obtain ⟨a2, cap2, e2, hc1, hc2, hra⟩ := hv.rows.rowsAt
  rw [HLAP.out.sq.1] at e2 hc1 hra
  obtain ⟨rfl, rfl⟩ : a2 = some ⟨G, 0, none⟩ ∧ N = cap2 := by simp only [Value.slice.injEq] at e2; exact ⟨e2.1.symm, e2.2.2⟩
  have HRA := Lib.hid hra
  clear hb hb2 hL hra e2 hv
  go_wp2_with fail
  go_loopg [8, 9] (N + 1) (fun g s i wr => ∃ k : Nat, k ≤ N ∧ N - k < g ∧ s = .int .i64 (sumTo (fun p => fn rows p p) k) ∧ i = .int .i64 k ∧ Below w2.heap.size w2 wr)
  case atStart => exact ⟨0, by omega, by omega, rfl, rfl, Below.refl _ _⟩
  case round =>
    obtain ⟨k, hk, hg, rfl, rfl, hbr⟩ := hrel
    have HRR := Lib.hid (HRA.out.call hbr)
    by_cases hlt : k < N
    · obtain ⟨ra, rc, hc, e1, e2, e3, e4⟩ := HRR.out.row hlt
      rw [HLAP.out.sq.2 k hlt] at hc e1 e4
      obtain ⟨row, hrow⟩ : ∃ r, r = rows.getD k [] := ⟨_, rfl⟩
      rw [← hrow] at e4
      rw [Nat.zero_add] at hc
      obtain ⟨b2, off2, rfl, hb2, hcs⟩ := e4.some (by omega)
      have hx := hcs k hlt
      have HS := Lib.hid (show wrap64 (sumTo (fun i => row.getD i 0) N) = 0 by
        have := HLAP.out.sum k
        have e : (fun i => row.getD i 0) = fn rows k := by funext i; rw [hrow]; rfl
        rw [e, this]
        exact wrap_in (by omega) (by omega))
      obtain ⟨x, hxx⟩ : ∃ x, x = row.getD k 0 := ⟨_, rfl⟩
      rw [← hxx] at hx
      have HX := Lib.hid (show x = fn rows k k by rw [hxx, hrow]; rfl)
      have xb : -100 ≤ x ∧ x ≤ 100 := by rw [HX.out]; exact HE.out k k
      obtain ⟨xb1, xb2⟩ := xb
      obtain ⟨t1, t2⟩ := trace_bd (n := N) (by omega) HE.out k hk
      obtain ⟨P, hP⟩ : ∃ P, P = sumTo (fun p => fn rows p p) k := ⟨_, rfl⟩
      rw [← hP] at t1 t2 ⊢
      have HP := Lib.hid hP
      have E4 := Lib.hid e4
      have hbG : G < wr.heap.size := World.block_lt_of_cell? _ _ hc
      clear hrow hcs hxx hP e3 e4
      go_wp2_with fail
      go_at_call 10
      refine (ESum_any _ N rc row _ E4.out (by omega)).mono ?_
      rintro e w3 ⟨rfl, rfl⟩
      rw [HS.out]
      go_wp2_with fail
      go_roundg (N - k)
      case measure => omega
      case rel => exact ⟨k + 1, by omega, by omega, by rw [HP.out, HX.out, sumTo], by go_num, hbr⟩
    · obtain rfl : k = N := by omega
      have HT := Lib.hid HLAP.out.tr
      rw [HT.out]
      have hm15 : m ≤ 15 := h3
      go_wp2_with fail
      go_at_call 12
      refine (Flip_any _ k k _ rows _ HRR.out (by omega) (by omega) (by omega) (by omega) HLAP.out.sq.2).mono ?_
      rintro e w3 ⟨⟨v, rfl, hf⟩, hb3⟩
      rw [lap_flip HLAP.out] at hf
      obtain ⟨a4, cap4, rfl, hc4, hc5, hra4⟩ := hf.rowsAt
      rw [HLAP.out.sq.1] at hra4 ⊢
      have HR4 := Lib.hid hra4
      have HR5 := Lib.hid (HRR.out.call hb3)
      clear hf hra4
      go_wp2_with fail
      go_at_call 11
      refine (Same_like _ _ k _ _ rows _ HR5.out HR4.out (by omega) (by intro i hi; rw [HLAP.out.sq.2 i hi]; omega)).mono ?_
      rintro e w4 ⟨rfl, hb4⟩
      go_wp2_with fail
      go_ret
      exact ⟨rfl, below_trans hbel (below_trans (below_trans hbr hb3) hb4)⟩

theorem TreeRows_any (n : Int) (a : Option Addr) (m cap : Nat) (ps : List (List Int)) {w' : World} (hw : RowsAt w' a m ps) (hc : m ≤ cap) (hm : Small m ps) (w : World) (e : w' = w) :
    Calls Try.prog 4 #[.int .i64 n, .slice a m cap] w fun e w' => e = .returned (.bool true) ∧ Below w.heap.size w w' := by
  subst e
  by_cases he : treeErr n ps = 0
  · exact rows_good a m cap ps w' hw hm he
  · exact rows_bad a m cap ps w' hw hm he
theorem frame_own : ownKnob Try.prog.godebug = none := by kernel_rfl
theorem frame_laid : laidOutB Try.prog = true := by kernel_rfl
set_option maxRecDepth 100000 in
theorem frame_lifted (os : Os) (started : os.Started) (H : Type) (enc : TypeId × Value → H) :
    ReturnsInHanded {} Try.checked os 4 .any (Rows.treeRowsSpec.pre6 enc Try.prog Try.f4 Rows.treeRowsRow.domain false) (Rows.treeRowsSpec.post enc Try.prog Try.f4 false true false false) := by
  refine returnsInHanded_of_change (C := Try.checked) frame_own started (by kernel_rfl) Try.func4
    (ChangeSpec.witness6 (enc := enc) (C := Try.checked) false ⟨#[], #[.int .i64 0, .slice none 0 0], []⟩ 8 (by kernel_rfl) (by kernel_rfl) (by kernel_rfl) (by kernel_rfl)) ?_
  intro W base args ds gs before hval0 hW hcnd _
  have hval : ∀ (j : Nat) t v, Try.f4.params[j]? = some t → args[j]? = some v → Value.okWide Try.prog W .any base t v := hval0
  have hW' := hW
  obtain ⟨p, q, hA0, hV, rfl, hfz, hnd⟩ := hW
  have hA : DataW.TrodAll enc Try.prog W 0 (fun _ => true) true Try.f4.params.toList args.toList ds p := hA0
  rw [Try.params4] at hA hval
  obtain ⟨v0, vs0, d0, ds0, p0, q0, hargs, rfl, rfl, h0, r0⟩ := trodAll_cons hA
  obtain ⟨v1, vs1, d1, ds1, p1, q1, rfl, rfl, rfl, h1, r1⟩ := trodAll_cons r0
  obtain ⟨rfl, rfl, rfl⟩ := trodAll_nil r1
  obtain rfl : args = #[v0, v1] := by cases args; simp_all
  obtain ⟨rfl, rfl⟩ := trodVars_none hV
  have k0 := h0
  have lt0 : ∀ x ∈ p0, x.block < W.heap.size := by obtain ⟨m, hm⟩ := k0; exact DataW.trod_lt m _ _ _ hm
  obtain ⟨a0, rfl, rfl, rfl, w0⟩ := open_int Try.underlying3 (hval 0 3 v0 rfl rfl) h0
  have k1 := h1
  have lt1 : ∀ x ∈ p1, x.block < W.heap.size := by obtain ⟨m, hm⟩ := k1; exact DataW.trod_lt m _ _ _ hm
  obtain ⟨a1, len1, cap1, rfl⟩ := okWide_slice Try.underlying22 (hval 1 22 v1 rfl rfl)
  obtain ⟨xs1, hxs1, hcap1, hmax1⟩ := open_rowsAt Try.underlying22 Try.underlying29 Try.underlying3 (by kernel_rfl) (by kernel_rfl) h1
  clear hA0 hval0
  refine (TreeRows_any a0 a1 len1 cap1 xs1 hxs1 hcap1 hmax1 W rfl).mono fun e W' ⟨he, bel⟩ => ?_
  subst he
  exact ⟨_, rfl, _, _, _, [], _, [], hW', trodAll_mk1 (shut_bool Try.underlying4 _), (trodAll_cons_mk (Below.trod frame_laid (by kernel_rfl) (of_decide_eq_true (by kernel_rfl)) k0 bel lt0) (trodAll_cons_mk (Below.trod frame_laid (by kernel_rfl) (of_decide_eq_true (by kernel_rfl)) k1 bel lt1) trodAll_mk0)), rfl, bel.frame _, fun h => by cases h⟩

theorem TreeRows_over : Rows.treeRowsRow.holds Try.pinned (OpenSpec.ofChange Rows.treeRowsSpec) :=
  OpenClaim.holds_of_wide 4 Try.f4 rfl rfl rfl rfl rfl rfl rfl ⟨rfl, rfl, rfl, rfl, rfl⟩ rfl rfl rfl rfl rfl (by kernel_rfl) Try.func4 (by kernel_rfl)
    (of_decide_eq_true (by kernel_rfl)) (by unfold Func.isWrapper; first | (rw [if_pos (by decide +kernel)]; kernel_rfl) | (rw [if_neg (by decide +kernel)]; exact ⟨rfl, rfl⟩))
    (fun os started H enc _ => frame_lifted os started H enc)

/-- THE STATEMENT -/
theorem TreeRows_holds : Rows.TreeRowsSaid := TreeRows_over
end Go.Proofs.Ytinekiclcccpbaa.TreeRowsP
