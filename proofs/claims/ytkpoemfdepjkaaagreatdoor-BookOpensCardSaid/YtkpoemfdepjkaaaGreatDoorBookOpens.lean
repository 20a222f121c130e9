/- It proves that rankmerelaw4.BookOpens, called with any text, returns true, and leaves its argument as it was. The one condition: the variables of the library that its row lists are as the program's text lays them; the card ties them. -/
import Derived.Test.YtkpoemfdepjkaaaGreatDoorBookApart
import Derived.Test.YtkpoemfdepjkaaaGreatDoorRefOpen
import Derived.Test.YtkpoemfdepjkaaaGreatDoorTold
import Derived.Test.YtkpoemfdepjkaaaGreatDoorFrameS
import Derived.Test.YtkpoemfdepjkaaaGreatDoorESame
import Derived.Test.YtkpoemfdepjkaaaGreatDoorOpen
import Derived.Test.YtkpoemfdepjkaaaGreatDoorTie
import Derived.Test.YtkpoemfdepjkaaaGreatDoorCards
import Derived.ProofKit
import Derived.OpenShut
import Derived.ShutString
import Derived.ChangeOld
import Derived.ChangeVars
import Derived.Lib.SmallJoins
import Derived.LaidLaws
import Derived.LaidMore
import Derived.Stop.Joined
import Derived.SevenTiedAt
import Derived.Lib.LaidU8
import Derived.MakeChecks
import Derived.LaidSub
import Derived.Deep.RegionHeld3
namespace Go.Proofs.YtkpoemfdepjkaaaGreatDoor.BookOpensP
open Go.ChangeShapes Go.WideShapes Go.ChangeAt Go.RowKit Go.Joins
open Go.ChangeMaps (open_string shut_string)
open Go.Proofs.YtkpoemfdepjkaaaGreatDoor
set_option linter.unusedVariables false
set_option linter.unusedSimpArgs false

set_option maxRecDepth 100000 in
set_option maxHeartbeats 4000000 in
theorem BookOpens_any (t : ByteArray) (ht : t.size ≤ maxLen) (w : World) (hG : Glob w.heap.size w) (hg : Handle w) :
    Calls Tryz.prog 4 #[.string t] w fun e w' => e = .returned (.bool true) ∧ Below w.heap.size w w' := by
  have hok := openE_ok t.data.toList
  have hr := ROpen_any t w
  have hop := fun W h => Open_any t W h
  generalize openE t.data.toList = o at hok hr hop
  obtain ⟨x, m, s⟩ := o
  simp only at hok hr hop
  have HOP := Lib.hid hop
  have HG := Lib.hid hG
  have HH := Lib.hid hg
  have HOK := Lib.hid hok
  clear hop hG hg hok
  by_cases hx : x = 0
  · subst hx
    go_enter Tryz.func4, Tryz.ntmps4
    go_wp2_with fail
    go_at_call 15
    refine hr.mono ?_
    rintro e w1 ⟨⟨v, rfl, hR, -⟩, hb1⟩
    obtain ⟨ra, rc, rfl, hrc, hro⟩ := hR (by trivial)
    go_upto_region 2 with (fail)
    have hx2 : (w1.alloc (.cells #[.slice ra 4 rc, .string (textOf s.2), .int .i64 (s.2.length : Nat)] 37)).heap[w1.heap.size]? = some (.cells #[.slice ra 4 rc, .string (textOf s.2), .int .i64 (s.2.length : Nat)] 37 (0, 0)) := heap_alloc_new _ _
    have hal : Below w1.heap.size w1 (w1.alloc (.cells #[.slice ra 4 rc, .string (textOf s.2), .int .i64 (s.2.length : Nat)] 37)) := (Below.refl _ _).alloc (Nat.le_refl _) _
    have hr2 := (own_rows4 hro).call hal
    have hb2 := below_trans hb1 hal
    obtain ⟨X, hX⟩ : ∃ X, X = w1.heap.size := ⟨_, rfl⟩
    rw [← hX] at hx2 ⊢
    generalize w1.alloc (.cells #[.slice ra 4 rc, .string (textOf s.2), .int .i64 (s.2.length : Nat)] 37) = w2 at *
    clear hX hal hb1 hro hR hr w1
    go_wp2_with fail
    go_at_call 9
    refine (HOP.out _ ((HG.out.call hb2).mono hb2.size)).mono ?_
    rintro e w3 ⟨h3, hb3⟩
    rcases h3 with ⟨Bk, G, vs, vl, rfl, -, hB⟩ | ⟨-, h3⟩
    · have hx3 : w3.heap[X]? = _ := (hb3.block _ (Array.getElem?_eq_some_iff.1 hx2).1).trans hx2
      have hr3 := hr2.call hb3
      have hbel := below_trans hb2 hb3
      have HX := Lib.hid (fun W (h : Below w3.heap.size w3 W) => (show W.cell? ⟨X, 0, none⟩ = some (.slice ra 4 rc) ∧ W.cell? ⟨X, 1, none⟩ = some (.string (textOf s.2)) from by
        have hXW : W.heap[X]? = _ := (h.block _ (Array.getElem?_eq_some_iff.1 hx3).1).trans hx3
        exact ⟨by simp [World.cell?, hXW], by simp [World.cell?, hXW]⟩))
      have HTX := Lib.hid (fun W (h : Below w3.heap.size w3 W) => Text_any W _ Bk G vs vl s.1 s.2 (hB.call h) (Nat.le_trans HOK.out.len (by omega)) HOK.out.line)
      have HRW := Lib.hid (fun W (h : Below w3.heap.size w3 W) => Rows_any W _ Bk G vs vl s.1 s.2 (hB.call h))
      have HEE := Lib.hid (fun W (h : Below w3.heap.size w3 W) G' (ho : RowsAt W (some ⟨G', 0, none⟩) 4 s.1) => ERows_like (some ⟨G', 0, none⟩) ra 4 4 rc s.1 W ho (hr3.call h) (by omega) (fun k hk => by rw [HOK.out.sq.2 k hk]; omega))
      have h4r := HOK.out.sq.1
      obtain ⟨t0, t1⟩ := HX.out w3 (Below.refl _ _)
      clear hx2 hx3 hr2 hr3 hb2 hb3 hB
      generalize textOf s.2 = T at *
      go_upto_region 5 with (fail)
      go_region_held3 (fun w' => w'.cell? ⟨X, 0, none⟩ = some (.slice ra 4 rc) ∧ w'.cell? ⟨X, 1, none⟩ = some (.string T)) (first | exact HX.out _ Cls.start | exact HX.out _ d1 | exact HX.out _ d2 | exact HX.out _ d3 | exact HX.out _ d4)
        (first
          | (go_at_call 10; refine (HTX.out _ Cls.start).mono ?_; rintro e wb ⟨rfl, hb⟩; have d2 := below_trans Cls.start hb)
          | (go_at_call 12; refine (HRW.out _ d2).mono ?_; rintro e wc ⟨⟨G2, vs2, rfl, ho⟩, hc⟩; have d3 := below_trans d2 hc; have ho' := ho.read; rw [h4r] at ho')
          | (go_at_call 11; refine (HEE.out _ d3 _ ho').mono ?_; rintro e wd ⟨rfl, hd⟩; have d4 := below_trans d3 hd))
      go_wp2_with fail
      go_ret
      exact ⟨rfl, hbel.trans (d4.mono hbel.size)⟩
    · exact absurd rfl h3
  · go_enter Tryz.func4, Tryz.ntmps4
    go_wp2_with fail
    go_at_call 15
    refine hr.mono ?_
    rintro e w1 ⟨⟨v, rfl, -, hR⟩, hb1⟩
    obtain rfl := hR (by first | exact hx | simpa using hx)
    go_upto_region 2 with (fail)
    have hb2 := below_trans hb1 ((Below.refl _ _).alloc (Nat.le_refl _) (.cells #[.slice none 0 0, .string ⟨#[]⟩, .int .i64 0] 37))
    clear hr hR
    generalize w1.alloc (.cells #[.slice none 0 0, .string ⟨#[]⟩, .int .i64 0] 37) = w2 at *
    go_wp2_with fail
    go_at_call 9
    refine (HOP.out _ ((HG.out.call hb2).mono hb2.size)).mono ?_
    rintro e w3 ⟨h3, hb3⟩
    rcases h3 with ⟨Bk, G, vs, vl, rfl, h0, hB⟩ | ⟨rfl, -⟩
    · exact absurd h0 hx
    · have hbel := below_trans hb2 hb3
      have hER := EError_any x x w3 (HH.out.call hbel)
      rw [show (x == x) = true by simp, errV_pos hx] at hER
      rw [errV_pos hx]
      go_wp2_with fail
      go_at_call 16
      refine hER.mono ?_
      rintro e w4 ⟨rfl, hb4⟩
      go_wp2_with fail
      go_ret
      exact ⟨rfl, below_trans hbel hb4⟩
theorem frame_own : ownKnob Tryz.prog.godebug = none := by kernel_rfl
theorem frame_laid : laidOutB Tryz.prog = true := by kernel_rfl
theorem frame_pg : Tryz.prog.globalNamed "internal/strconv.uint64pow10" = some 6 := by kernel_rfl
theorem frame_pt : (Tryz.prog.globals[6]?).map (·.type) = some 160 := by kernel_rfl
theorem frame_pd {H : Type} : (Rows.laid_internal_strconv_uint64pow10 : DataW H) = Lib.tabData .u64 Lib.pow10Tab := by rfl
theorem tab_of_laid {W : World} (h : laidMetH Tryz.prog Rows.bookOpensRow.laid W) : Tab W.heap.size W := by
  have h' : laidMet Tryz.prog (Rows.bookOpensRow.laid.filter fun x => x.2.handleName?.isNone) W := (laidMetH_iff.1 h).1
  have hr : Lib.VarReads Tryz.prog W "internal/strconv.uint64pow10" Rows.laid_internal_strconv_uint64pow10 := Lib.laidMet.reads h' (List.mem_filter.2 ⟨by simp [Rows.bookOpensRow], by kernel_rfl⟩)
  rw [frame_pd] at hr
  exact Lib.tabBelow_of_tabIs (tabIs_of_reads frame_pg frame_pt Tryz.underlying160 Tryz.underlying141 (by kernel_rfl) (by kernel_rfl) hr)
theorem glob_of_laid {W : World} (h : laidMetH Tryz.prog Rows.bookOpensRow.laid W) (hS : W.ShapedOpen Tryz.prog) : Glob W.heap.size W := by
  have h' : laidMet Tryz.prog (Rows.bookOpensRow.laid.filter fun x => x.2.handleName?.isNone) W := (laidMetH_iff.1 h).1
  have hr : Lib.VarReads Tryz.prog W "strconv.ErrRange" Rows.laid_strconv_ErrRange := Lib.laidMet.reads h' (List.mem_filter.2 ⟨by simp [Rows.bookOpensRow], by kernel_rfl⟩)
  exact glob_of (tab_of_laid h) (iface_of_reads (g := 5) (by kernel_rfl) (by kernel_rfl) Tryz.underlying27 hr) hS
theorem frame_et : Tryz.prog.globalNamed "errors.errorType" = some 0 := by kernel_rfl
theorem frame_rt : (Tryz.prog.cutTypes.find? (·.1 == "internal/reflectlite.rtype")).map (·.2) = some 120 := by kernel_rfl
theorem frame_oneRow : ((List.range 198).filter fun t => Tryz.prog.rowNamed t [101, 114, 114, 111, 114]) = [27] := by kernel_rfl
theorem frame_size : Tryz.prog.types.size = 198 := by kernel_rfl
theorem handle_of_laid {W : World} (h : laidMetH Tryz.prog Rows.bookOpensRow.laid W) : Handle W := by
  have h2 : ∃ name u ty, (Rows.laid_errors_errorType : DataW Unit).handleName? = some name ∧ (Tryz.prog.cutTypes.find? (·.1 == "internal/reflectlite.rtype")).map (·.2) = some u ∧ ty < Tryz.prog.types.size ∧ Tryz.prog.rowNamed ty name = true ∧ W.var? Tryz.prog "errors.errorType" = some #[.iface u (.agg #[typeHandle Tryz.prog ty])] := (laidMetH_iff.1 h).2 ("errors.errorType", Rows.laid_errors_errorType) (List.mem_filter.2 ⟨by simp [Rows.bookOpensRow], by kernel_rfl⟩)
  obtain ⟨name, u, ty, e1, e2, e3, e4, e5⟩ := h2
  have en : name = [101, 114, 114, 111, 114] := (Option.some.inj e1).symm
  subst en
  obtain rfl := Option.some.inj (frame_rt.symm.trans e2)
  have hm : ty ∈ (List.range 198).filter fun t => Tryz.prog.rowNamed t [101, 114, 114, 111, 114] := List.mem_filter.2 ⟨List.mem_range.2 (by rw [← frame_size]; exact e3), e4⟩
  rw [frame_oneRow] at hm
  obtain rfl := List.mem_singleton.1 hm
  have hh : typeHandle Tryz.prog 27 = .pointer (some ⟨9, 27, none⟩) := by kernel_rfl
  rw [hh] at e5
  unfold Handle
  simpa using World.var?_cell frame_et e5 0
noncomputable def laidWorld (os : Os) : World := (World.doorLaid Tryz.prog 400 os).layVars Tryz.prog (Rows.bookOpensRow.laid.filter fun x => x.2.handleName?.isNone)
theorem laidWorld_os (os : Os) : (laidWorld os).os = os := World.layVars_os _ _ _
theorem laidWorld_met (os : Os) (args : Array Value) : laidMetH Tryz.prog Rows.bookOpensRow.laid ((laidWorld os).forCall (fun _ _ => 0) ⟨#[], args, []⟩).memory :=
  laidMetH_of_parts (laidMet.of_heap (by simp [laidWorld, World.memory, World.forCall, Input.heap]) (laidMet_over (w0 := (World.doorLaid Tryz.prog 400 os)) (by kernel_rfl) (by kernel_rfl))) (by kernel_rfl)
set_option maxRecDepth 100000 in
theorem frame_lifted (os : Os) (started : os.Started) (H : Type) (enc : TypeId × Value → H) :
    ReturnsInHanded {} Tryz.checked os 4 .any (fun w args => (Rows.bookOpensSpec.pre enc Tryz.prog Tryz.f4 Rows.bookOpensRow.domain false w args ∧ laidMetH Tryz.prog Rows.bookOpensRow.laid w) ∧ sizedMet enc Tryz.prog Tryz.f4 (OpenSpec.ofChange Rows.bookOpensSpec) false w args) (Rows.bookOpensSpec.post enc Tryz.prog Tryz.f4 false true false false) := by
  refine returns_and_shaped (C := Tryz.checked) (X := (fun w _ => laidMetH Tryz.prog Rows.bookOpensRow.laid w)) (fun _ _ _ hh h => h.of_heap hh) frame_own started (by kernel_rfl) Tryz.func4
    (ChangeSpec.witness_shaped (enc := enc) (C := Tryz.checked) (os := os) (X := (fun w _ => laidMetH Tryz.prog Rows.bookOpensRow.laid w)) false (laidWorld os) #[.string ⟨#[]⟩] 8 (laidWorld_os os) (World.shaped_of_ZipB (by kernel_rfl) (by kernel_rfl)) (by kernel_rfl) (by kernel_rfl) (by kernel_rfl) (laidWorld_met os _)) ?_
  intro W base args ds gs before hval0 hW hcnd _ hLaid hSh _
  have hval : ∀ (j : Nat) t v, Tryz.f4.params[j]? = some t → args[j]? = some v → Value.okWide Tryz.prog W .any base t v := hval0
  have hW' := hW
  obtain ⟨p, q, hA0, hV, rfl, hfz, hnd⟩ := hW
  have hA : DataW.TrodAll enc Tryz.prog W 0 (fun _ => true) true Tryz.f4.params.toList args.toList ds p := hA0
  rw [Tryz.params4] at hA hval
  obtain ⟨v0, vs0, d0, ds0, p0, q0, hargs, rfl, rfl, h0, r0⟩ := trodAll_cons hA
  obtain ⟨rfl, rfl, rfl⟩ := trodAll_nil r0
  obtain rfl : args = #[v0] := by cases args; simp_all
  obtain ⟨rfl, rfl⟩ := trodVars_none hV
  have k0 := h0
  have lt0 : ∀ x ∈ p0, x.block < W.heap.size := by obtain ⟨m, hm⟩ := k0; exact DataW.trod_lt m _ _ _ hm
  obtain ⟨a0, rfl, rfl, rfl, w0⟩ := open_string Tryz.underlying9 (hval 0 9 v0 rfl rfl) h0
  clear hA0 hval0
  refine (BookOpens_any a0 w0 W (glob_of_laid hLaid hSh) (handle_of_laid hLaid)).mono fun e W' ⟨he, bel⟩ => ?_
  subst he
  exact ⟨_, rfl, _, _, _, [], _, [], hW', trodAll_mk1 (shut_bool Tryz.underlying4 _), (trodAll_cons_mk (Below.trod frame_laid (by kernel_rfl) (of_decide_eq_true (by kernel_rfl)) k0 bel lt0) trodAll_mk0), rfl, bel.frame _, fun h => by cases h⟩

theorem BookOpens_over : Rows.bookOpensRow.holds Tryz.pinned (OpenSpec.ofChange Rows.bookOpensSpec) :=
  OpenClaim.holds_of_wide 4 Tryz.f4 rfl rfl rfl rfl rfl rfl rfl ⟨rfl, rfl, rfl, rfl, rfl⟩ rfl rfl rfl rfl rfl (by kernel_rfl) Tryz.func4 (by kernel_rfl)
    (of_decide_eq_true (by kernel_rfl)) (by unfold Func.isWrapper; first | (rw [if_pos (by decide +kernel)]; kernel_rfl) | (rw [if_neg (by decide +kernel)]; exact ⟨rfl, rfl⟩))
    (fun os started H enc _ => frame_lifted os started H enc)

theorem frame_wants : ∀ t ∈ [9], Tryz.prog.wantsStandIn t = false := by
  intro t ht
  simp only [List.mem_cons, List.not_mem_nil, or_false] at ht
  subst ht; kernel_rfl
/-- THE STATEMENT: THE TIED CARD -/
theorem BookOpens_holds : Rows.BookOpensCardSaid :=
  Claim7.holds_tied_plain_at .later [] [.data, .data, .data, .data, .handle, .sentinel, .sentinel, .pinned] true _ true
    BookOpens_over (fun _ h => by cases h) (by kernel_rfl) (fun _ h => by cases h) bookOpens_row_tie rfl ⟨rfl, rfl⟩ (by kernel_rfl) rfl
    (fun f fn hf hfn => by
      obtain rfl : f = 4 := Option.some.inj ((show Tryz.prog.funcNamed "rankmere/rankmerelaw4.BookOpens" = some 4 by kernel_rfl).symm.trans hf) |>.symm
      obtain rfl : fn = Tryz.f4 := (Option.some.inj (Tryz.func4.symm.trans hfn)).symm
      exact ⟨by kernel_rfl, fun j t ht => by
        rw [Tryz.params4] at ht
        exact frame_wants t (by have := Array.mem_of_getElem? ht; simpa using this)⟩)
    (by kernel_rfl)
end Go.Proofs.YtkpoemfdepjkaaaGreatDoor.BookOpensP
