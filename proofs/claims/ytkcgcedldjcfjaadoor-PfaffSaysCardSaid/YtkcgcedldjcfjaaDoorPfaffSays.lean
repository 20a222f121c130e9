/- It proves that rankmerelaw4.PfaffSays, called with any list of lists of integers, returns true, and leaves its arguments as they were. The one condition: errors.errorType is as the program's text lays it; the card ties it. -/
import Derived.Test.YtkcgcedldjcfjaaDoorHPfaff
import Derived.Test.YtkcgcedldjcfjaaDoorHSkewAll
import Derived.Test.YtkcgcedldjcfjaaDoorRDet
import Derived.Test.YtkcgcedldjcfjaaDoorDet
import Derived.Test.YtkcgcedldjcfjaaDoorPfFn
import Derived.Test.YtkcgcedldjcfjaaDoorRMatrix
import Derived.Test.YtkcgcedldjcfjaaDoorTold
import Derived.Test.YtkcgcedldjcfjaaDoorLawIn
import Derived.Test.YtkcgcedldjcfjaaDoorOpen
import Derived.Test.YtkcgcedldjcfjaaDoorTie
import Derived.Test.YtkcgcedldjcfjaaDoorCards
import Derived.ProofKit
import Derived.OpenShut
import Derived.ShutString
import Derived.ChangeOld
import Derived.ChangeVars
import Derived.Lib.SmallJoins
import Derived.LaidLaws
import Derived.LaidHandle
import Derived.Stop.Joined
import Derived.SevenTiedAt
import Derived.StillTailTactics
namespace Go.Proofs.YtkcgcedldjcfjaaDoor.PfaffSaysP
open Go.ChangeShapes Go.WideShapes Go.ChangeAt Go.RowKit Go.Joins
open Go.ChangeMaps (open_string shut_string)
open Go.Proofs.YtkcgcedldjcfjaaDoor
set_option linter.unusedVariables false
set_option linter.unusedSimpArgs false

theorem told (x : Int) (w : World) (hg : Handle w) : Calls Tryd.prog 5 #[errV x, .int .i64 x] w fun ev w' => ev = .returned (.bool true) ∧ Below w.heap.size w w' := by
  have h := EError_any x x w hg
  rw [show (x == x) = true by simp] at h
  exact h
theorem says_pf {n : Nat} {rows : List (List Int)} (hl : rows.length = n) (he : skErr rows = 0) : wrap64 (pfU n (fn rows) (n + 1) []) = pfV rows := by
  obtain ⟨b1, b2⟩ := pfV_bd rows
  obtain ⟨h1, h2, h3, h4, h5⟩ := skErr_good he
  have hv : pfU n (fn rows) (n + 1) [] = pfV rows := by
    unfold pfV
    rw [if_pos he, hl, pfN_F]
    rw [hl] at h3 h4
    have : n = 1 ∨ n = 2 ∨ n = 3 ∨ n = 4 ∨ n = 5 ∨ n = 6 := by omega
    rcases this with rfl | rfl | rfl | rfl | rfl | rfl
    · rw [← pfN_F, pfN_odd 1 rows (by decide)]; exact pfU_odd1 _
    · exact pfU_2 _
    · rw [← pfN_F, pfN_odd 3 rows (by decide)]; exact pfU_3 _
    · exact pfU_4 _
    · rw [← pfN_F, pfN_odd 5 rows (by decide)]; exact pfU_5 _
    · exact pfU_6 _
  rw [hv, wrap_in (by omega) (by omega)]
/-- what pfaff.Det answers -/
def pdV (rows : List (List Int)) : Int := if skErr rows = 0 then wrap64 (detN rows.length rows) else 0
theorem PfDet_any (a : Option Addr) (n cap : Nat) (rows : List (List Int)) (w : World) (hr : RowsAt w a n rows) (hcap : n ≤ cap) (hs : Small n rows) :
    Calls Tryd.prog 10 #[.slice a n cap] w fun e w' => e = .returned (.tuple #[.int .i64 (pdV rows), errV (skErr rows)]) ∧ Below w.heap.size w w' := by
  have hG := PfCheck_any a n cap rows w hr hs
  by_cases he : skErr rows = 0
  · obtain ⟨h1, h2, h3, h4, h5⟩ := skErr_good he
    have hl := hr.1
    rw [hl] at h1 h3 h4
    have hv : pdV rows = wrap64 (detN n rows) := by unfold pdV; rw [if_pos he, hl]
    have hD := fun W (h : RowsAt W a n rows) => Det_any n a cap rows W (by omega) hcap h1 h
    rw [← hv] at hD
    rw [he, errV_zero] at hG ⊢
    generalize pdV rows = D at *
    have HR := Lib.hid hr
    have HD := Lib.hid hD
    clear hr hs h1 h2 h5 hv he hl hD
    go_enter Tryd.func10, Tryd.ntmps10
    go_wp2_with fail
    go_at_call 6
    refine (hG).mono ?_
    rintro e w1 ⟨rfl, hb1⟩
    go_wp2_with fail
    go_wp2_with fail
    go_at_call 19
    refine (HD.out _ (HR.out.call hb1)).mono ?_
    rintro e w2 ⟨rfl, hb2⟩
    go_wp2_with fail
    go_ret2
    exact ⟨rfl, below_trans hb1 hb2⟩
  · have hv : pdV rows = 0 := by unfold pdV; rw [if_neg he]
    rw [hv]
    rw [errV_pos he] at hG ⊢
    generalize skErr rows = E at *
    clear hr hs
    go_enter Tryd.func10, Tryd.ntmps10
    go_wp2_with fail
    go_at_call 6
    refine (hG).mono ?_
    rintro e w1 ⟨rfl, hb1⟩
    go_wp2_with fail
    go_ret2
    exact ⟨rfl, hb1⟩

theorem says_bad (a : Option Addr) (n cap : Nat) (rows : List (List Int)) (w : World) (hr : RowsAt w a n rows) (hcap : n ≤ cap) (hs : Small n rows) (he : skErr rows ≠ 0) (hg : Handle w) :
    Calls Tryd.prog 3 #[.slice a n cap] w fun e w' => e = .returned (.bool true) ∧ Below w.heap.size w w' := by
  have h0 := fun W (h : RowsAt W a n rows) => HSkew_any a n cap rows W h hs
  have h1 := fun W (h : RowsAt W a n rows) => PfCheck_any a n cap rows W h hs
  have h2 := fun W (h : RowsAt W a n rows) => PfFn_any a n cap rows W h hcap hs
  have h3 := fun W (h : RowsAt W a n rows) => PfDet_any a n cap rows W h hcap hs
  have hv : pfV rows = 0 := by unfold pfV; rw [if_neg he]
  have hp : pdV rows = 0 := by unfold pdV; rw [if_neg he]
  rw [hv] at h2
  rw [hp] at h3
  have hbad : (skErr rows == 0) = false := by simpa using he
  generalize skErr rows = E at *
  have HR := Lib.hid hr
  have HG := Lib.hid hg
  clear hr hg hv hp
  go_enter Tryd.func3, Tryd.ntmps3
  go_wp2_with fail
  go_at_call 4
  refine (h0 _ HR.out).mono ?_
  rintro e w1 ⟨rfl, hb1⟩
  go_wp2_with fail
  go_at_call 6
  refine (h1 _ (HR.out.call hb1)).mono ?_
  rintro e w2 ⟨rfl, hb2⟩
  have hb12 := below_trans hb1 hb2
  go_wp2_with fail
  go_at_call 5
  refine (told _ _ (HG.out.call hb12)).mono ?_
  rintro e w3 ⟨rfl, hb3⟩
  have hb13 := below_trans hb12 hb3
  go_wp2_with fail
  go_at_call 9
  refine (h2 _ (HR.out.call hb13)).mono ?_
  rintro e w4 ⟨rfl, hb4⟩
  have hb14 := below_trans hb13 hb4
  go_wp2_with fail
  go_at_call 5
  refine (told _ _ (HG.out.call hb14)).mono ?_
  rintro e w5 ⟨rfl, hb5⟩
  have hb15 := below_trans hb14 hb5
  go_wp2_with fail
  go_at_call 10
  refine (h3 _ (HR.out.call hb15)).mono ?_
  rintro e w6 ⟨rfl, hb6⟩
  have hb16 := below_trans hb15 hb6
  go_wp2_with fail
  go_at_call 5
  refine (told _ _ (HG.out.call hb16)).mono ?_
  rintro e w7 ⟨rfl, hb7⟩
  have hb17 := below_trans hb16 hb7
  go_wp2_with fail
  go_ret
  exact ⟨rfl, hb17⟩

theorem says_good (a : Option Addr) (n cap : Nat) (rows : List (List Int)) (w : World) (hr : RowsAt w a n rows) (hcap : n ≤ cap) (hs : Small n rows) (he : skErr rows = 0) (hg : Handle w) :
    Calls Tryd.prog 3 #[.slice a n cap] w fun e w' => e = .returned (.bool true) ∧ Below w.heap.size w w' := by
  have hl := hr.1
  obtain ⟨g1, g2, g3, g4, g5⟩ := skErr_good he
  rw [hl] at g1 g3 g4
  have h0 := fun W (h : RowsAt W a n rows) => HSkew_any a n cap rows W h hs
  have h1 := fun W (h : RowsAt W a n rows) => PfCheck_any a n cap rows W h hs
  have h2 := fun W (h : RowsAt W a n rows) => PfFn_any a n cap rows W h hcap hs
  have h3 := fun W (h : RowsAt W a n rows) => PfDet_any a n cap rows W h hcap hs
  have h4 := fun W (h : RowsAt W a n rows) => HPfaff_any n (by omega) a cap rows g1 (n + 1) none 0 0 [] W (by omega) h (IntsAt.nil _ _) (fun _ => rfl) (Fit.nil n)
  have h5 := fun W (h : RowsAt W a n rows) => RDet_any n a cap rows W (by omega) hcap g1 h
  have hv : wrap64 (detN n rows) = pdV rows := by unfold pdV; rw [if_pos he, hl]
  rw [says_pf hl he] at h4
  rw [hv] at h5
  rw [he] at h0 h1 h2 h3
  have ht := told 0
  generalize pfV rows = P at *
  generalize pdV rows = Q at *
  rw [errV_zero] at h1 h2 h3 ht
  have HR := Lib.hid hr
  have HG := Lib.hid hg
  clear hr hg he g1 g2 g3 g4 g5 hl hv
  go_enter Tryd.func3, Tryd.ntmps3
  go_wp2_with fail
  go_at_call 4
  refine (h0 _ HR.out).mono ?_
  rintro e w1 ⟨rfl, hb1⟩
  go_wp2_with fail
  go_at_call 6
  refine (h1 _ (HR.out.call hb1)).mono ?_
  rintro e w2 ⟨rfl, hb2⟩
  have hb12 := below_trans hb1 hb2
  go_wp2_with fail
  go_at_call 5
  refine (ht _ (HG.out.call hb12)).mono ?_
  rintro e w3 ⟨rfl, hb3⟩
  have hb13 := below_trans hb12 hb3
  go_wp2_with fail
  go_at_call 7
  refine (h4 _ (HR.out.call hb13)).mono ?_
  rintro e w8 ⟨rfl, hb8⟩
  have hb18 := below_trans hb13 hb8
  go_wp2_with fail
  go_at_call 8
  refine (h5 _ (HR.out.call hb18)).mono ?_
  rintro e w9 ⟨rfl, hb9⟩
  have hb19 := below_trans hb18 hb9
  go_wp2_with fail
  go_at_call 9
  refine (h2 _ (HR.out.call hb19)).mono ?_
  rintro e w4 ⟨rfl, hb4⟩
  have hb14 := below_trans hb19 hb4
  go_wp2_with fail
  go_at_call 5
  refine (ht _ (HG.out.call hb14)).mono ?_
  rintro e w5 ⟨rfl, hb5⟩
  have hb15 := below_trans hb14 hb5
  go_wp2_with fail
  go_at_call 10
  refine (h3 _ (HR.out.call hb15)).mono ?_
  rintro e w6 ⟨rfl, hb6⟩
  have hb16 := below_trans hb15 hb6
  go_wp2_with fail
  go_at_call 5
  refine (ht _ (HG.out.call hb16)).mono ?_
  rintro e w7 ⟨rfl, hb7⟩
  have hb17 := below_trans hb16 hb7
  go_wp2_with fail
  go_ret
  exact ⟨rfl, hb17⟩

theorem PfaffSays_any (a : Option Addr) (n cap : Nat) (rows : List (List Int)) {w' : World} (hr : RowsAt w' a n rows) (hcap : n ≤ cap) (hs : Small n rows) (w : World) (e : w' = w) (hg : Handle w) :
    Calls Tryd.prog 3 #[.slice a n cap] w fun e w' => e = .returned (.bool true) ∧ Below w.heap.size w w' := by
  subst e
  by_cases he : skErr rows = 0
  · exact says_good a n cap rows _ hr hcap hs he hg
  · exact says_bad a n cap rows _ hr hcap hs he hg
theorem frame_own : ownKnob Tryd.prog.godebug = none := by kernel_rfl
theorem frame_laid : laidOutB Tryd.prog = true := by kernel_rfl
theorem frame_et : Tryd.prog.globalNamed "errors.errorType" = some 0 := by kernel_rfl
theorem frame_rt : (Tryd.prog.cutTypes.find? (·.1 == "internal/reflectlite.rtype")).map (·.2) = some 62 := by kernel_rfl
theorem frame_oneRow : ((List.range 105).filter fun t => Tryd.prog.rowNamed t [101, 114, 114, 111, 114]) = [26] := by kernel_rfl
theorem frame_size : Tryd.prog.types.size = 105 := by kernel_rfl
theorem handle_of_laid {W : World} (h : laidMetH Tryd.prog Rows.pfaffSaysRow.laid W) : Handle W := by
  have h' : laidMet Tryd.prog [] W ∧ handlesMet Tryd.prog Rows.pfaffSaysRow.laid W := h
  obtain ⟨name, u, ty, e1, e2, e3, e4, e5⟩ := h'.2 _ (List.mem_singleton.2 rfl)
  have en : name = [101, 114, 114, 111, 114] := (Option.some.inj e1).symm
  subst en
  obtain rfl := Option.some.inj (frame_rt.symm.trans e2)
  have hm : ty ∈ (List.range 105).filter fun t => Tryd.prog.rowNamed t [101, 114, 114, 111, 114] := List.mem_filter.2 ⟨List.mem_range.2 (by rw [← frame_size]; exact e3), e4⟩
  rw [frame_oneRow] at hm
  obtain rfl := List.mem_singleton.1 hm
  have hh : typeHandle Tryd.prog 26 = .pointer (some ⟨1, 26, none⟩) := by kernel_rfl
  rw [hh] at e5
  unfold Handle
  simpa using World.var?_cell frame_et e5 0
noncomputable def laidWorld (os : Os) : World :=
  let w0 := World.holding Tryd.prog os ⟨#[], #[], []⟩
  { w0 with heap := w0.heap.modify 0 fun
      | .cells _ t frozen => .cells #[.iface 62 (.agg #[.pointer (some ⟨1, 26, none⟩)])] t frozen
      | o => o }
theorem laidWorld_met (os : Os) (args : Array Value) : laidMetH Tryd.prog Rows.pfaffSaysRow.laid ((laidWorld os).forCall (fun _ _ => 0) ⟨#[], args, []⟩).memory :=
  laidMetH_of_parts (laidMet_nil _ _) (by kernel_rfl)
set_option maxRecDepth 100000 in
theorem frame_lifted (os : Os) (started : os.Started) (H : Type) (enc : TypeId × Value → H) :
    ReturnsInHanded {} Tryd.checked os 3 .any (fun w args => (Rows.pfaffSaysSpec.pre enc Tryd.prog Tryd.f3 Rows.pfaffSaysRow.domain false w args ∧ laidMetH Tryd.prog Rows.pfaffSaysRow.laid w) ∧ sizedMet enc Tryd.prog Tryd.f3 (OpenSpec.ofChange Rows.pfaffSaysSpec) false w args) (Rows.pfaffSaysSpec.post enc Tryd.prog Tryd.f3 false true false false) := by
  refine returnsInHanded_of_change_and (C := Tryd.checked) (X := (fun w _ => laidMetH Tryd.prog Rows.pfaffSaysRow.laid w)) (fun _ _ _ hh h => h.of_heap hh) frame_own started (by kernel_rfl) Tryd.func3
    (ChangeSpec.witness_at (enc := enc) (C := Tryd.checked) (os := os) (X := (fun w _ => laidMetH Tryd.prog Rows.pfaffSaysRow.laid w)) false (laidWorld os) #[.slice none 0 0] 8 rfl (by kernel_rfl) (by kernel_rfl) (by kernel_rfl) (by kernel_rfl) (by kernel_rfl) (laidWorld_met os _)) ?_
  intro W base args ds gs before hval0 hW hcnd _ hLaid _
  have hval : ∀ (j : Nat) t v, Tryd.f3.params[j]? = some t → args[j]? = some v → Value.okWide Tryd.prog W .any base t v := hval0
  have hW' := hW
  obtain ⟨p, q, hA0, hV, rfl, hfz, hnd⟩ := hW
  have hA : DataW.TrodAll enc Tryd.prog W 0 (fun _ => true) true Tryd.f3.params.toList args.toList ds p := hA0
  rw [Tryd.params3] at hA hval
  obtain ⟨v0, vs0, d0, ds0, p0, q0, hargs, rfl, rfl, h0, r0⟩ := trodAll_cons hA
  obtain ⟨rfl, rfl, rfl⟩ := trodAll_nil r0
  obtain rfl : args = #[v0] := by cases args; simp_all
  obtain ⟨rfl, rfl⟩ := trodVars_none hV
  have k0 := h0
  have lt0 : ∀ x ∈ p0, x.block < W.heap.size := by obtain ⟨m, hm⟩ := k0; exact DataW.trod_lt m _ _ _ hm
  obtain ⟨a0, len0, cap0, rfl⟩ := okWide_slice Tryd.underlying22 (hval 0 22 v0 rfl rfl)
  obtain ⟨xs0, hxs0, hcap0, hmax0⟩ := open_rowsAt Tryd.underlying22 Tryd.underlying33 Tryd.underlying3 (by kernel_rfl) (by kernel_rfl) h0
  clear hA0 hval0
  refine (PfaffSays_any a0 len0 cap0 xs0 hxs0 hcap0 hmax0 W rfl (handle_of_laid hLaid)).mono fun e W' ⟨he, bel⟩ => ?_
  subst he
  exact ⟨_, rfl, _, _, _, [], _, [], hW', trodAll_mk1 (shut_bool Tryd.underlying4 _), (trodAll_cons_mk (Below.trod frame_laid (by kernel_rfl) (of_decide_eq_true (by kernel_rfl)) k0 bel lt0) trodAll_mk0), rfl, bel.frame _, fun h => by cases h⟩

theorem PfaffSays_over : Rows.pfaffSaysRow.holds Tryd.pinned (OpenSpec.ofChange Rows.pfaffSaysSpec) :=
  OpenClaim.holds_of_wide 3 Tryd.f3 rfl rfl rfl rfl rfl rfl rfl ⟨rfl, rfl, rfl, rfl, rfl⟩ rfl rfl rfl rfl rfl (by kernel_rfl) Tryd.func3 (by kernel_rfl)
    (of_decide_eq_true (by kernel_rfl)) (by unfold Func.isWrapper; first | (rw [if_pos (by decide +kernel)]; kernel_rfl) | (rw [if_neg (by decide +kernel)]; exact ⟨rfl, rfl⟩))
    (fun os started H enc _ => frame_lifted os started H enc)

theorem frame_wants : ∀ t ∈ [22], Tryd.prog.wantsStandIn t = false := by
  intro t ht
  simp only [List.mem_cons, List.not_mem_nil, or_false] at ht
  subst ht; kernel_rfl
/-- THE STATEMENT: THE TIED CARD -/
theorem PfaffSays_holds : Rows.PfaffSaysCardSaid :=
  Claim7.holds_tied_plain_at .later [] [.handle] true _ true
    PfaffSays_over (fun _ h => by cases h) (by kernel_rfl) (fun _ h => by cases h) pfaffSays_row_tie rfl ⟨rfl, rfl⟩ (by kernel_rfl) rfl
    (fun f fn hf hfn => by
      obtain rfl : f = 3 := Option.some.inj ((show Tryd.prog.funcNamed "rankmere/rankmerelaw4.PfaffSays" = some 3 by kernel_rfl).symm.trans hf) |>.symm
      obtain rfl : fn = Tryd.f3 := (Option.some.inj (Tryd.func3.symm.trans hfn)).symm
      exact ⟨by kernel_rfl, fun j t ht => by
        rw [Tryd.params3] at ht
        exact frame_wants t (by have := Array.mem_of_getElem? ht; simpa using this)⟩)
    (by kernel_rfl)
end Go.Proofs.YtkcgcedldjcfjaaDoor.PfaffSaysP
