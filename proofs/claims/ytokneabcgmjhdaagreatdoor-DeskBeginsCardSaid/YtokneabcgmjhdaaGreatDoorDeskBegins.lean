/- It proves that rankmerelaw4.DeskBegins, called with any text and any integer, returns true, and leaves its arguments as they were. The one condition: the variables of the library that its row lists are as the program's text lays them; the card ties them. -/
import Derived.Test.YtokneabcgmjhdaaGreatDoorDeskRun
import Derived.Test.YtokneabcgmjhdaaGreatDoorDeskB
import Derived.Test.YtokneabcgmjhdaaGreatDoorDeskFact
import Derived.Test.YtokneabcgmjhdaaGreatDoorFrameS
import Derived.Test.YtokneabcgmjhdaaGreatDoorTie
import Derived.Test.YtokneabcgmjhdaaGreatDoorCards
import Derived.ProofKit
import Derived.OpenShut
import Derived.ShutString
import Derived.ChangeOld
import Derived.ChangeVars
import Derived.Lib.SmallJoins
import Derived.LaidLaws
import Derived.LaidMore
import Derived.Stop.Joined
import Derived.SevenTiedAt
import Derived.Lib.LaidU8
import Derived.MakeChecks
import Derived.LaidSub
namespace Go.Proofs.YtokneabcgmjhdaaGreatDoor.DeskBeginsP
open Go.ChangeShapes Go.WideShapes Go.ChangeAt Go.RowKit Go.Joins
open Go.ChangeMaps (open_string shut_string)
open Go.Proofs.YtokneabcgmjhdaaGreatDoor
set_option linter.unusedVariables false
set_option linter.unusedSimpArgs false

set_option maxRecDepth 100000 in
set_option maxHeartbeats 4000000 in
theorem DeskBegins_any (t : ByteArray) (ht : t.size ≤ maxLen) (kk : Int) (w : World) (hG : Glob w.heap.size w) (hg : Handle w) :
    Calls Tryz.prog 4 #[.string t, .int .i64 kk] w fun e w' => e = .returned (.bool true) ∧ Below w.heap.size w w' := by
  have hD := Run_det hG hg w (Below.refl _ _)
  have HRT := Lib.hid (fun W h => Run_list t _ rfl hG hg W h)
  have HRE := Lib.hid (fun j W h => Run_list (t.extract 0 j) _ (ext_upto t j) hG hg W h)
  have hB := fun k h1 h2 h3 => begins_all (t := t.data.toList) (k := k) h1 h2 h3
  obtain ⟨l, hl⟩ : ∃ l, l = t.data.toList := ⟨_, rfl⟩
  have hll : l.length = t.size := by rw [hl, size_list]
  rw [← hl] at HRT HRE hB
  have HL := Lib.hid hl
  have HB := Lib.hid hB
  have HLL := Lib.hid hll
  clear hB hG hg hl hll
  go_enter Tryz.func4, Tryz.ntmps4
  go_wp2_with fail
  go_at_call 8
  refine (hD).mono ?_
  rintro e w1 ⟨rfl, hb1⟩
  clear hD
  by_cases h3 : 3000 < t.size
  · have h3i : (3000 : Int) < t.size := by omega
    go_wp2_with fail
    go_ret
    exact ⟨rfl, hb1⟩
  have h3i : ¬ (3000 : Int) < t.size := by omega
  by_cases hk0 : kk < 0
  · go_wp2_with fail
    go_ret
    exact ⟨rfl, hb1⟩
  obtain ⟨k, rfl⟩ : ∃ k : Nat, kk = k := ⟨kk.toNat, by omega⟩
  by_cases hk1 : t.size < k
  · have hk1i : (t.size : Int) < (k : Int) := by omega
    go_wp2_with fail
    go_ret
    exact ⟨rfl, hb1⟩
  have hk1i : ¬ (t.size : Int) < (k : Int) := by omega
  go_wp2_with fail
  go_loopg [1] (k + 1) (fun g kv wr => ∃ j : Nat, j ≤ k ∧ j < g ∧ kv = .int .i64 j ∧ wr = w1)
  case atStart => exact ⟨k, Nat.le_refl _, by omega, rfl, rfl⟩
  case round =>
    obtain ⟨j, hj, hg, rfl, rfl⟩ := hrel
    by_cases hj0 : j = 0
    · subst hj0
      obtain ⟨r, hr⟩ := HB.out 0 (by rw [HLL.out]; omega) (by omega) (Or.inl rfl)
      have hrx := HRE.out 0
      rw [show t.extract 0 0 = ByteArray.empty from by simp, List.take_zero] at hrx
      rw [List.take_zero] at hr
      have HRX := Lib.hid hrx
      clear hrx
      clear hk0 HB HRE
      go_wp2_with fail
      go_at_call 8
      refine (HRX.out _ hb1).mono ?_
      rintro e w2 ⟨rfl, hb2⟩
      have hb12 := below_trans hb1 hb2
      go_wp2_with fail
      go_at_call 8
      refine (HRT.out _ hb12).mono ?_
      rintro e w3 ⟨rfl, hb3⟩
      have hb13 := below_trans hb12 hb3
      rw [hr]
      have hxs : (ba (sessE [])).size ≤ (ba (sessE [] ++ r)).size := by rw [ba_size, ba_size, List.length_append]; omega
      have hxe : (ba (sessE [] ++ r)).extract 0 (ba (sessE [])).size = ba (sessE []) := by
        rw [← ba_data (ByteArray.extract _ _ _), ext_upto, ba_toList, ba_size, List.take_left]
      generalize ba (sessE []) = X at *
      generalize ba (sessE [] ++ r) = Y at *
      have hxi : (X.size : Int) ≤ (Y.size : Int) := by omega
      clear hxs hr
      go_wp2_with fail
      go_ret
      exact ⟨rfl, hb13⟩
    · obtain ⟨m, rfl⟩ : ∃ m, j = m + 1 := ⟨j - 1, by omega⟩
      have hm : m < t.size := by omega
      have hm0 : (0 : Int) ≤ m := by omega
      have hmi : (m : Int) < t.size := by omega
      have hmj : (m : Int) + 1 ≤ t.size := by omega
      have hbk := byte_get t l HL.out hm
      have bb := @byte_beq (t[m]'hm) 10
      rw [show ((10 : UInt8).toNat : Int) = 10 from rfl] at bb
      rcases bb with ⟨b1, b2, b3⟩ | ⟨b1, b2, b3⟩
      · obtain ⟨r, hr⟩ := HB.out (m + 1) (by rw [HLL.out]; omega) (by rw [HLL.out]; omega) (Or.inr (by rw [Nat.add_sub_cancel, ← hbk]; exact b3))
        have HRX := Lib.hid (HRE.out (m + 1))
        clear hk0 HB HRE b3 hbk
        go_wp2_with fail
        go_at_call 8
        refine (HRX.out _ hb1).mono ?_
        rintro e w2 ⟨rfl, hb2⟩
        have hb12 := below_trans hb1 hb2
        go_wp2_with fail
        go_at_call 8
        refine (HRT.out _ hb12).mono ?_
        rintro e w3 ⟨rfl, hb3⟩
        have hb13 := below_trans hb12 hb3
        rw [hr]
        have hxs : (ba (sessE (l.take (m + 1)))).size ≤ (ba (sessE (l.take (m + 1)) ++ r)).size := by rw [ba_size, ba_size, List.length_append]; omega
        have hxe : (ba (sessE (l.take (m + 1)) ++ r)).extract 0 (ba (sessE (l.take (m + 1)))).size = ba (sessE (l.take (m + 1))) := by
          rw [← ba_data (ByteArray.extract _ _ _), ext_upto, ba_toList, ba_size, List.take_left]
        generalize ba (sessE (l.take (m + 1))) = X at *
        generalize ba (sessE (l.take (m + 1)) ++ r) = Y at *
        have hxi : (X.size : Int) ≤ (Y.size : Int) := by omega
        clear hxs hr
        go_wp2_with fail
        go_ret
        exact ⟨rfl, hb13⟩
      · clear b3 hbk
        go_wp2_with fail
        go_roundg (m + 1)
        case measure => omega
        case rel => exact ⟨m, by omega, by omega, by go_num, rfl⟩
theorem frame_own : ownKnob Tryz.prog.godebug = none := by kernel_rfl
theorem frame_laid : laidOutB Tryz.prog = true := by kernel_rfl
theorem frame_pg : Tryz.prog.globalNamed "internal/strconv.uint64pow10" = some 6 := by kernel_rfl
theorem frame_pt : (Tryz.prog.globals[6]?).map (·.type) = some 175 := by kernel_rfl
theorem frame_pd {H : Type} : (Rows.laid_internal_strconv_uint64pow10 : DataW H) = Lib.tabData .u64 Lib.pow10Tab := by rfl
theorem tab_of_laid {W : World} (h : laidMetH Tryz.prog Rows.deskBeginsRow.laid W) : Tab W.heap.size W := by
  have h' : laidMet Tryz.prog (Rows.deskBeginsRow.laid.filter fun x => x.2.handleName?.isNone) W := (laidMetH_iff.1 h).1
  have hr : Lib.VarReads Tryz.prog W "internal/strconv.uint64pow10" Rows.laid_internal_strconv_uint64pow10 := Lib.laidMet.reads h' (List.mem_filter.2 ⟨by simp [Rows.deskBeginsRow], by kernel_rfl⟩)
  rw [frame_pd] at hr
  exact Lib.tabBelow_of_tabIs (tabIs_of_reads frame_pg frame_pt Tryz.underlying175 Tryz.underlying157 (by kernel_rfl) (by kernel_rfl) hr)
theorem glob_of_laid {W : World} (h : laidMetH Tryz.prog Rows.deskBeginsRow.laid W) (hS : W.ShapedOpen Tryz.prog) : Glob W.heap.size W := by
  have h' : laidMet Tryz.prog (Rows.deskBeginsRow.laid.filter fun x => x.2.handleName?.isNone) W := (laidMetH_iff.1 h).1
  have hr : Lib.VarReads Tryz.prog W "strconv.ErrRange" Rows.laid_strconv_ErrRange := Lib.laidMet.reads h' (List.mem_filter.2 ⟨by simp [Rows.deskBeginsRow], by kernel_rfl⟩)
  exact glob_of (tab_of_laid h) (iface_of_reads (g := 5) (by kernel_rfl) (by kernel_rfl) Tryz.underlying42 hr) hS
theorem frame_et : Tryz.prog.globalNamed "errors.errorType" = some 0 := by kernel_rfl
theorem frame_rt : (Tryz.prog.cutTypes.find? (·.1 == "internal/reflectlite.rtype")).map (·.2) = some 133 := by kernel_rfl
theorem frame_oneRow : ((List.range 209).filter fun t => Tryz.prog.rowNamed t [101, 114, 114, 111, 114]) = [42] := by kernel_rfl
theorem frame_size : Tryz.prog.types.size = 209 := by kernel_rfl
theorem handle_of_laid {W : World} (h : laidMetH Tryz.prog Rows.deskBeginsRow.laid W) : Handle W := by
  have h2 : ∃ name u ty, (Rows.laid_errors_errorType : DataW Unit).handleName? = some name ∧ (Tryz.prog.cutTypes.find? (·.1 == "internal/reflectlite.rtype")).map (·.2) = some u ∧ ty < Tryz.prog.types.size ∧ Tryz.prog.rowNamed ty name = true ∧ W.var? Tryz.prog "errors.errorType" = some #[.iface u (.agg #[typeHandle Tryz.prog ty])] := (laidMetH_iff.1 h).2 ("errors.errorType", Rows.laid_errors_errorType) (List.mem_filter.2 ⟨by simp [Rows.deskBeginsRow], by kernel_rfl⟩)
  obtain ⟨name, u, ty, e1, e2, e3, e4, e5⟩ := h2
  have en : name = [101, 114, 114, 111, 114] := (Option.some.inj e1).symm
  subst en
  obtain rfl := Option.some.inj (frame_rt.symm.trans e2)
  have hm : ty ∈ (List.range 209).filter fun t => Tryz.prog.rowNamed t [101, 114, 114, 111, 114] := List.mem_filter.2 ⟨List.mem_range.2 (by rw [← frame_size]; exact e3), e4⟩
  rw [frame_oneRow] at hm
  obtain rfl := List.mem_singleton.1 hm
  have hh : typeHandle Tryz.prog 42 = .pointer (some ⟨9, 42, none⟩) := by kernel_rfl
  rw [hh] at e5
  unfold Handle
  simpa using World.var?_cell frame_et e5 0
noncomputable def laidWorld (os : Os) : World := (World.doorLaid Tryz.prog 400 os).layVars Tryz.prog (Rows.deskBeginsRow.laid.filter fun x => x.2.handleName?.isNone)
theorem laidWorld_os (os : Os) : (laidWorld os).os = os := World.layVars_os _ _ _
theorem laidWorld_met (os : Os) (args : Array Value) : laidMetH Tryz.prog Rows.deskBeginsRow.laid ((laidWorld os).forCall (fun _ _ => 0) ⟨#[], args, []⟩).memory :=
  laidMetH_of_parts (laidMet.of_heap (by simp [laidWorld, World.memory, World.forCall, Input.heap]) (laidMet_over (w0 := (World.doorLaid Tryz.prog 400 os)) (by kernel_rfl) (by kernel_rfl))) (by kernel_rfl)
set_option maxRecDepth 100000 in
theorem frame_lifted (os : Os) (started : os.Started) (H : Type) (enc : TypeId × Value → H) :
    ReturnsInHanded {} Tryz.checked os 4 .any (fun w args => (Rows.deskBeginsSpec.pre enc Tryz.prog Tryz.f4 Rows.deskBeginsRow.domain false w args ∧ laidMetH Tryz.prog Rows.deskBeginsRow.laid w) ∧ sizedMet enc Tryz.prog Tryz.f4 (OpenSpec.ofChange Rows.deskBeginsSpec) false w args) (Rows.deskBeginsSpec.post enc Tryz.prog Tryz.f4 false true false false) := by
  refine returns_and_shaped (C := Tryz.checked) (X := (fun w _ => laidMetH Tryz.prog Rows.deskBeginsRow.laid w)) (fun _ _ _ hh h => h.of_heap hh) frame_own started (by kernel_rfl) Tryz.func4
    (ChangeSpec.witness_shaped (enc := enc) (C := Tryz.checked) (os := os) (X := (fun w _ => laidMetH Tryz.prog Rows.deskBeginsRow.laid w)) false (laidWorld os) #[.string ⟨#[]⟩, .int .i64 0] 8 (laidWorld_os os) (World.shaped_of_ZipB (by kernel_rfl) (by kernel_rfl)) (by kernel_rfl) (by kernel_rfl) (by kernel_rfl) (laidWorld_met os _)) ?_
  intro W base args ds gs before hval0 hW hcnd _ hLaid hSh _
  have hval : ∀ (j : Nat) t v, Tryz.f4.params[j]? = some t → args[j]? = some v → Value.okWide Tryz.prog W .any base t v := hval0
  have hW' := hW
  obtain ⟨p, q, hA0, hV, rfl, hfz, hnd⟩ := hW
  have hA : DataW.TrodAll enc Tryz.prog W 0 (fun _ => true) true Tryz.f4.params.toList args.toList ds p := hA0
  rw [Tryz.params4] at hA hval
  obtain ⟨v0, vs0, d0, ds0, p0, q0, hargs, rfl, rfl, h0, r0⟩ := trodAll_cons hA
  obtain ⟨v1, vs1, d1, ds1, p1, q1, rfl, rfl, rfl, h1, r1⟩ := trodAll_cons r0
  obtain ⟨rfl, rfl, rfl⟩ := trodAll_nil r1
  obtain rfl : args = #[v0, v1] := by cases args; simp_all
  obtain ⟨rfl, rfl⟩ := trodVars_none hV
  have k0 := h0
  have lt0 : ∀ x ∈ p0, x.block < W.heap.size := by obtain ⟨m, hm⟩ := k0; exact DataW.trod_lt m _ _ _ hm
  obtain ⟨a0, rfl, rfl, rfl, w0⟩ := open_string Tryz.underlying9 (hval 0 9 v0 rfl rfl) h0
  have k1 := h1
  have lt1 : ∀ x ∈ p1, x.block < W.heap.size := by obtain ⟨m, hm⟩ := k1; exact DataW.trod_lt m _ _ _ hm
  obtain ⟨a1, rfl, rfl, rfl, w1⟩ := open_int Tryz.underlying3 (hval 1 3 v1 rfl rfl) h1
  clear hA0 hval0
  refine (DeskBegins_any a0 w0 a1 W (glob_of_laid hLaid hSh) (handle_of_laid hLaid)).mono fun e W' ⟨he, bel⟩ => ?_
  subst he
  exact ⟨_, rfl, _, _, _, [], _, [], hW', trodAll_mk1 (shut_bool Tryz.underlying4 _), (trodAll_cons_mk (Below.trod frame_laid (by kernel_rfl) (of_decide_eq_true (by kernel_rfl)) k0 bel lt0) (trodAll_cons_mk (Below.trod frame_laid (by kernel_rfl) (of_decide_eq_true (by kernel_rfl)) k1 bel lt1) trodAll_mk0)), rfl, bel.frame _, fun h => by cases h⟩

theorem DeskBegins_over : Rows.deskBeginsRow.holds Tryz.pinned (OpenSpec.ofChange Rows.deskBeginsSpec) :=
  OpenClaim.holds_of_wide 4 Tryz.f4 rfl rfl rfl rfl rfl rfl rfl ⟨rfl, rfl, rfl, rfl, rfl⟩ rfl rfl rfl rfl rfl (by kernel_rfl) Tryz.func4 (by kernel_rfl)
    (of_decide_eq_true (by kernel_rfl)) (by unfold Func.isWrapper; first | (rw [if_pos (by decide +kernel)]; kernel_rfl) | (rw [if_neg (by decide +kernel)]; exact ⟨rfl, rfl⟩))
    (fun os started H enc _ => frame_lifted os started H enc)

theorem frame_wants : ∀ t ∈ [9, 3], Tryz.prog.wantsStandIn t = false := by
  intro t ht
  simp only [List.mem_cons, List.not_mem_nil, or_false] at ht
  rcases ht with rfl | rfl <;> kernel_rfl
/-- THE STATEMENT: THE TIED CARD -/
theorem DeskBegins_holds : Rows.DeskBeginsCardSaid :=
  Claim7.holds_tied_plain_at .later [] [.data, .data, .data, .data, .handle, .sentinel, .sentinel, .pinned] true _ true
    DeskBegins_over (fun _ h => by cases h) (by kernel_rfl) (fun _ h => by cases h) deskBegins_row_tie rfl ⟨rfl, rfl⟩ (by kernel_rfl) rfl
    (fun f fn hf hfn => by
      obtain rfl : f = 4 := Option.some.inj ((show Tryz.prog.funcNamed "rankmere/rankmerelaw4.DeskBegins" = some 4 by kernel_rfl).symm.trans hf) |>.symm
      obtain rfl : fn = Tryz.f4 := (Option.some.inj (Tryz.func4.symm.trans hfn)).symm
      exact ⟨by kernel_rfl, fun j t ht => by
        rw [Tryz.params4] at ht
        exact frame_wants t (by have := Array.mem_of_getElem? ht; simpa using this)⟩)
    (by kernel_rfl)
end Go.Proofs.YtokneabcgmjhdaaGreatDoor.DeskBeginsP
