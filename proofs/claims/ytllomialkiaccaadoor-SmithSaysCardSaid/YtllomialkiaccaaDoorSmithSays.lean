/- It proves that rankmerelaw4.SmithSays, called with any list of lists of integers, returns true, and leaves its arguments as they were. The one condition: errors.errorType is as the program's text lays it; the card ties it. -/
import Derived.Test.YtllomialkiaccaaDoorHParts
import Derived.Test.YtllomialkiaccaaDoorSmith
import Derived.Test.YtllomialkiaccaaDoorHRows
import Derived.Test.YtllomialkiaccaaDoorESame
import Derived.Test.YtllomialkiaccaaDoorTold
import Derived.Test.YtllomialkiaccaaDoorLawIn
import Derived.Test.YtllomialkiaccaaDoorOpen
import Derived.Test.YtllomialkiaccaaDoorTie
import Derived.Test.YtllomialkiaccaaDoorCards
import Derived.ProofKit
import Derived.OpenShut
import Derived.ShutString
import Derived.ChangeOld
import Derived.ChangeVars
import Derived.Lib.SmallJoins
import Derived.LaidLaws
import Derived.LaidHandle
import Derived.Stop.Joined
import Derived.SevenTiedAt
import Derived.StillTailTactics
namespace Go.Proofs.YtllomialkiaccaaDoor.SmithSaysP
open Go.ChangeShapes Go.WideShapes Go.ChangeAt Go.RowKit Go.Joins
open Go.ChangeMaps (open_string shut_string)
open Go.Proofs.YtllomialkiaccaaDoor
set_option linter.unusedVariables false
set_option linter.unusedSimpArgs false

theorem told (x : Int) (w : World) (hg : Handle w) : Calls Tryd.prog 9 #[errV x, .int .i64 x] w fun ev w' => ev = .returned (.bool true) ∧ Below w.heap.size w w' := by
  have h := EError_any x x w hg
  rw [show (x == x) = true by simp] at h
  exact h
theorem says_bad (a : Option Addr) (n cap : Nat) (rows : List (List Int)) (w : World) (hr : RowsAt w a n rows) (hcap : n ≤ cap) (hs : Small n rows) (he : herErr rows ≠ 0) (hg : Handle w) :
    Calls Tryd.prog 3 #[.slice a n cap] w fun e w' => e = .returned (.bool true) ∧ Below w.heap.size w w' := by
  have h0 := fun W (h : RowsAt W a n rows) => HRows_any a n cap rows W h hcap hs
  have h1 := fun W (h : RowsAt W a n rows) => Parts_bad a n cap rows W h hcap hs he
  have h2 := fun W (h : RowsAt W a n rows) => Index_bad a n cap rows W h hcap hs he
  have hbad : (herErr rows == 0) = false := by simpa using he
  have ht := told (herErr rows)
  generalize herErr rows = E at *
  have HR := Lib.hid hr
  have HG := Lib.hid hg
  have h3 := fun W => EInts_like none none 0 0 0 [] W (IntsAt.nil _ _) (IntsAt.nil _ _) (by omega)
  rw [errV_pos he] at h1 h2 ht
  clear hr hg
  go_enter Tryd.func3, Tryd.ntmps3
  go_wp2_with fail
  go_at_call 4
  refine (h0 _ HR.out).mono ?_
  rintro e w1 ⟨rfl, hb1⟩
  go_wp2_with fail
  go_at_call 8
  refine (h1 _ (HR.out.call hb1)).mono ?_
  rintro e w2 ⟨rfl, hb2⟩
  have hb12 := below_trans hb1 hb2
  go_wp2_with fail
  go_at_call 9
  refine (ht _ (HG.out.call hb12)).mono ?_
  rintro e w3 ⟨rfl, hb3⟩
  have hb13 := below_trans hb12 hb3
  go_wp2_with fail
  go_at_call 10
  refine (h3 _).mono ?_
  rintro e w4 ⟨rfl, hb4⟩
  have hb14 := below_trans hb13 hb4
  go_wp2_with fail
  go_at_call 11
  refine (h2 _ (HR.out.call hb14)).mono ?_
  rintro e w5 ⟨rfl, hb5⟩
  have hb15 := below_trans hb14 hb5
  go_wp2_with fail
  go_at_call 9
  refine (ht _ (HG.out.call hb15)).mono ?_
  rintro e w6 ⟨rfl, hb6⟩
  go_wp2_with fail
  go_ret
  exact ⟨rfl, below_trans hb15 hb6⟩

theorem says_good (a : Option Addr) (n cap : Nat) (rows : List (List Int)) (w : World) (hr : RowsAt w a n rows) (hcap : n ≤ cap) (hs : Small n rows) (he : herErr rows = 0) (hg : Handle w) :
    Calls Tryd.prog 3 #[.slice a n cap] w fun e w' => e = .returned (.bool true) ∧ Below w.heap.size w w' := by
  have hk := herErr_good hr.1 he
  have hn1 := hk.pos
  have hn3 := hk.le
  have hbd := hk.bd
  obtain ⟨b, off, rfl, hb0⟩ := hr.some hn1
  have h0 := fun W (h : RowsAt W (some ⟨b, off, none⟩) n rows) => HRows_any (some ⟨b, off, none⟩) n cap rows W h hcap hs
  have h1 := fun W (h : RowsAt W (some ⟨b, off, none⟩) n rows) => Parts_good (some ⟨b, off, none⟩) n cap rows W h hcap hs he
  have h2 := fun W (h : RowsAt W (some ⟨b, off, none⟩) n rows) => Index_good (some ⟨b, off, none⟩) n cap rows W h hcap hs he
  have h4 := fun W (h : RowsAt W (some ⟨b, off, none⟩) n rows) => HParts_any b off n cap rows W h hcap hk
  have hD := fun w (h : RowsAt w (some ⟨b, off, none⟩) n rows) => RDet_any n (some ⟨b, off, none⟩) cap rows w (by omega) hcap hk.sq h
  rw [detN_G, wrap_in (by omega) (by omega)] at hD
  have hll := partsTo_len n (fn rows) n
  generalize partsTo n (fn rows) n = L at *
  generalize G (-1) n (fn rows) = d at *
  have hdn : (absI d) = (d.natAbs : Int) := by unfold absI; split <;> omega
  have HDN := Lib.hid hdn
  have ht := told 0
  rw [he] at h0
  rw [errV_zero] at ht
  have HR := Lib.hid hr
  have HG := Lib.hid hg
  have HLL := Lib.hid hll
  have H1 := Lib.hid h1
  have H2 := Lib.hid h2
  have H4 := Lib.hid h4
  have HD := Lib.hid hD
  clear hr hg he hk hdn hll h1 h2 h4 hD
  go_enter Tryd.func3, Tryd.ntmps3
  go_wp2_with fail
  go_at_call 4
  refine (h0 _ HR.out).mono ?_
  rintro e w1 ⟨rfl, hb1⟩
  go_wp2_with fail
  go_at_call 5
  refine (H4.out _ (HR.out.call hb1)).mono ?_
  rintro e w2 ⟨⟨g, c, rfl, hW⟩, hb2⟩
  have hb12 := below_trans hb1 hb2
  have HW := Lib.hid hW
  clear hW
  go_wp2_with fail
  go_at_call 7
  refine (HD.out _ (HR.out.call hb12)).mono ?_
  rintro e w3 ⟨rfl, hb3⟩
  have hb13 := below_trans hb12 hb3
  go_wp2_with fail
  go_at_call 6
  refine (RAbs_any _ _ (by omega) (by omega)).mono ?_
  rintro e w4 ⟨rfl, rfl⟩
  rw [HDN.out]
  go_wp2_with fail
  go_at_call 8
  refine (H1.out _ (HR.out.call hb13)).mono ?_
  rintro e w5 ⟨⟨vl, rfl, hO⟩, hb5⟩
  have hb15 := below_trans hb13 hb5
  obtain ⟨va, vcap, rfl, _, _, _, hI⟩ := hO.shape
  rw [HLL.out] at hI ⊢
  have HI := Lib.hid hI
  have HW5 := Lib.hid (HW.out.call (below_trans hb3 hb5))
  clear hO hI HW
  go_wp2_with fail
  go_at_call 9
  refine (ht _ (HG.out.call hb15)).mono ?_
  rintro e w6 ⟨rfl, hb6⟩
  have hb16 := below_trans hb15 hb6
  have hEE := Lib.hid (EInts_like va (some ⟨g, 0, none⟩) n vcap c L w6 (HI.out.call hb6) (HW5.out.call hb6) (by omega))
  go_wp2_with fail
  go_at_call 10
  refine (hEE.out).mono ?_
  rintro e w7 ⟨rfl, hb7⟩
  have hb17 := below_trans hb16 hb7
  clear hEE HI HW5
  go_wp2_with fail
  go_at_call 11
  refine (H2.out _ (HR.out.call hb17)).mono ?_
  rintro e w8 ⟨rfl, hb8⟩
  have hb18 := below_trans hb17 hb8
  go_wp2_with fail
  go_at_call 9
  refine (ht _ (HG.out.call hb18)).mono ?_
  rintro e w9 ⟨rfl, hb9⟩
  go_wp2_with fail
  go_ret
  exact ⟨rfl, below_trans hb18 hb9⟩

theorem SmithSays_any (a : Option Addr) (n cap : Nat) (rows : List (List Int)) {w' : World} (hr : RowsAt w' a n rows) (hcap : n ≤ cap) (hs : Small n rows) (w : World) (e : w' = w) (hg : Handle w) :
    Calls Tryd.prog 3 #[.slice a n cap] w fun e w' => e = .returned (.bool true) ∧ Below w.heap.size w w' := by
  subst e
  by_cases he : herErr rows = 0
  · exact says_good a n cap rows _ hr hcap hs he hg
  · exact says_bad a n cap rows _ hr hcap hs he hg
theorem frame_own : ownKnob Tryd.prog.godebug = none := by kernel_rfl
theorem frame_laid : laidOutB Tryd.prog = true := by kernel_rfl
theorem frame_et : Tryd.prog.globalNamed "errors.errorType" = some 0 := by kernel_rfl
theorem frame_rt : (Tryd.prog.cutTypes.find? (·.1 == "internal/reflectlite.rtype")).map (·.2) = some 72 := by kernel_rfl
theorem frame_oneRow : ((List.range 115).filter fun t => Tryd.prog.rowNamed t [101, 114, 114, 111, 114]) = [28] := by kernel_rfl
theorem frame_size : Tryd.prog.types.size = 115 := by kernel_rfl
theorem handle_of_laid {W : World} (h : laidMetH Tryd.prog Rows.smithSaysRow.laid W) : Handle W := by
  have h' : laidMet Tryd.prog [] W ∧ handlesMet Tryd.prog Rows.smithSaysRow.laid W := h
  obtain ⟨name, u, ty, e1, e2, e3, e4, e5⟩ := h'.2 _ (List.mem_singleton.2 rfl)
  have en : name = [101, 114, 114, 111, 114] := (Option.some.inj e1).symm
  subst en
  obtain rfl := Option.some.inj (frame_rt.symm.trans e2)
  have hm : ty ∈ (List.range 115).filter fun t => Tryd.prog.rowNamed t [101, 114, 114, 111, 114] := List.mem_filter.2 ⟨List.mem_range.2 (by rw [← frame_size]; exact e3), e4⟩
  rw [frame_oneRow] at hm
  obtain rfl := List.mem_singleton.1 hm
  have hh : typeHandle Tryd.prog 28 = .pointer (some ⟨1, 28, none⟩) := by kernel_rfl
  rw [hh] at e5
  unfold Handle
  simpa using World.var?_cell frame_et e5 0
noncomputable def laidWorld (os : Os) : World :=
  let w0 := World.holding Tryd.prog os ⟨#[], #[], []⟩
  { w0 with heap := w0.heap.modify 0 fun
      | .cells _ t frozen => .cells #[.iface 72 (.agg #[.pointer (some ⟨1, 28, none⟩)])] t frozen
      | o => o }
theorem laidWorld_met (os : Os) (args : Array Value) : laidMetH Tryd.prog Rows.smithSaysRow.laid ((laidWorld os).forCall (fun _ _ => 0) ⟨#[], args, []⟩).memory :=
  laidMetH_of_parts (laidMet_nil _ _) (by kernel_rfl)
set_option maxRecDepth 100000 in
theorem frame_lifted (os : Os) (started : os.Started) (H : Type) (enc : TypeId × Value → H) :
    ReturnsInHanded {} Tryd.checked os 3 .any (fun w args => (Rows.smithSaysSpec.pre enc Tryd.prog Tryd.f3 Rows.smithSaysRow.domain false w args ∧ laidMetH Tryd.prog Rows.smithSaysRow.laid w) ∧ sizedMet enc Tryd.prog Tryd.f3 (OpenSpec.ofChange Rows.smithSaysSpec) false w args) (Rows.smithSaysSpec.post enc Tryd.prog Tryd.f3 false true false false) := by
  refine returnsInHanded_of_change_and (C := Tryd.checked) (X := (fun w _ => laidMetH Tryd.prog Rows.smithSaysRow.laid w)) (fun _ _ _ hh h => h.of_heap hh) frame_own started (by kernel_rfl) Tryd.func3
    (ChangeSpec.witness_at (enc := enc) (C := Tryd.checked) (os := os) (X := (fun w _ => laidMetH Tryd.prog Rows.smithSaysRow.laid w)) false (laidWorld os) #[.slice none 0 0] 8 rfl (by kernel_rfl) (by kernel_rfl) (by kernel_rfl) (by kernel_rfl) (by kernel_rfl) (laidWorld_met os _)) ?_
  intro W base args ds gs before hval0 hW hcnd _ hLaid _
  have hval : ∀ (j : Nat) t v, Tryd.f3.params[j]? = some t → args[j]? = some v → Value.okWide Tryd.prog W .any base t v := hval0
  have hW' := hW
  obtain ⟨p, q, hA0, hV, rfl, hfz, hnd⟩ := hW
  have hA : DataW.TrodAll enc Tryd.prog W 0 (fun _ => true) true Tryd.f3.params.toList args.toList ds p := hA0
  rw [Tryd.params3] at hA hval
  obtain ⟨v0, vs0, d0, ds0, p0, q0, hargs, rfl, rfl, h0, r0⟩ := trodAll_cons hA
  obtain ⟨rfl, rfl, rfl⟩ := trodAll_nil r0
  obtain rfl : args = #[v0] := by cases args; simp_all
  obtain ⟨rfl, rfl⟩ := trodVars_none hV
  have k0 := h0
  have lt0 : ∀ x ∈ p0, x.block < W.heap.size := by obtain ⟨m, hm⟩ := k0; exact DataW.trod_lt m _ _ _ hm
  obtain ⟨a0, len0, cap0, rfl⟩ := okWide_slice Tryd.underlying22 (hval 0 22 v0 rfl rfl)
  obtain ⟨xs0, hxs0, hcap0, hmax0⟩ := open_rowsAt Tryd.underlying22 Tryd.underlying24 Tryd.underlying3 (by kernel_rfl) (by kernel_rfl) h0
  clear hA0 hval0
  refine (SmithSays_any a0 len0 cap0 xs0 hxs0 hcap0 hmax0 W rfl (handle_of_laid hLaid)).mono fun e W' ⟨he, bel⟩ => ?_
  subst he
  exact ⟨_, rfl, _, _, _, [], _, [], hW', trodAll_mk1 (shut_bool Tryd.underlying4 _), (trodAll_cons_mk (Below.trod frame_laid (by kernel_rfl) (of_decide_eq_true (by kernel_rfl)) k0 bel lt0) trodAll_mk0), rfl, bel.frame _, fun h => by cases h⟩

theorem SmithSays_over : Rows.smithSaysRow.holds Tryd.pinned (OpenSpec.ofChange Rows.smithSaysSpec) :=
  OpenClaim.holds_of_wide 3 Tryd.f3 rfl rfl rfl rfl rfl rfl rfl ⟨rfl, rfl, rfl, rfl, rfl⟩ rfl rfl rfl rfl rfl (by kernel_rfl) Tryd.func3 (by kernel_rfl)
    (of_decide_eq_true (by kernel_rfl)) (by unfold Func.isWrapper; first | (rw [if_pos (by decide +kernel)]; kernel_rfl) | (rw [if_neg (by decide +kernel)]; exact ⟨rfl, rfl⟩))
    (fun os started H enc _ => frame_lifted os started H enc)

theorem frame_wants : ∀ t ∈ [22], Tryd.prog.wantsStandIn t = false := by
  intro t ht
  simp only [List.mem_cons, List.not_mem_nil, or_false] at ht
  subst ht; kernel_rfl
/-- THE STATEMENT: THE TIED CARD -/
theorem SmithSays_holds : Rows.SmithSaysCardSaid :=
  Claim7.holds_tied_plain_at .later [] [.handle] true _ true
    SmithSays_over (fun _ h => by cases h) (by kernel_rfl) (fun _ h => by cases h) smithSays_row_tie rfl ⟨rfl, rfl⟩ (by kernel_rfl) rfl
    (fun f fn hf hfn => by
      obtain rfl : f = 3 := Option.some.inj ((show Tryd.prog.funcNamed "rankmere/rankmerelaw4.SmithSays" = some 3 by kernel_rfl).symm.trans hf) |>.symm
      obtain rfl : fn = Tryd.f3 := (Option.some.inj (Tryd.func3.symm.trans hfn)).symm
      exact ⟨by kernel_rfl, fun j t ht => by
        rw [Tryd.params3] at ht
        exact frame_wants t (by have := Array.mem_of_getElem? ht; simpa using this)⟩)
    (by kernel_rfl)
end Go.Proofs.YtllomialkiaccaaDoor.SmithSaysP
