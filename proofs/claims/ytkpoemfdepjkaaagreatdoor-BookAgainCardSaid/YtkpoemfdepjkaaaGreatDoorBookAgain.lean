/- It proves that rankmerelaw4.BookAgain, called with any list of lists of integers and any three integers, returns true, and leaves its arguments as they were. The one condition: the variables of the library that its row lists are as the program's text lays them; the card ties them. -/
import Derived.Test.YtkpoemfdepjkaaaGreatDoorBookApart
import Derived.Test.YtkpoemfdepjkaaaGreatDoorFrameS
import Derived.Test.YtkpoemfdepjkaaaGreatDoorESame
import Derived.Test.YtkpoemfdepjkaaaGreatDoorOpen
import Derived.Test.YtkpoemfdepjkaaaGreatDoorTie
import Derived.Test.YtkpoemfdepjkaaaGreatDoorCards
import Derived.ProofKit
import Derived.OpenShut
import Derived.ShutString
import Derived.ChangeOld
import Derived.ChangeVars
import Derived.Lib.SmallJoins
import Derived.LaidLaws
import Derived.LaidMore
import Derived.Stop.Joined
import Derived.SevenTiedAt
import Derived.Lib.LaidU8
import Derived.MakeChecks
import Derived.LaidSub
import Derived.Deep.RegionHeld3
namespace Go.Proofs.YtkpoemfdepjkaaaGreatDoor.BookAgainP
open Go.ChangeShapes Go.WideShapes Go.ChangeAt Go.RowKit Go.Joins
open Go.ChangeMaps (open_string shut_string)
open Go.Proofs.YtkpoemfdepjkaaaGreatDoor
set_option linter.unusedVariables false
set_option linter.unusedSimpArgs false

set_option maxRecDepth 100000 in
set_option maxHeartbeats 4000000 in
theorem BookAgain_any (a : Option Addr) (n cap : Nat) (steps : List (List Int)) {w' : World} (hr : RowsAt w' a n steps) (hcap : n ≤ cap) (hs : Small n steps) (i j m : Int) (w : World) (e : w' = w) (hG : Glob w.heap.size w) :
    Calls Tryz.prog 3 #[.slice a n cap, .int .i64 i, .int .i64 j, .int .i64 m] w fun e w' => e = .returned (.bool true) ∧ Below w.heap.size w w' := by
  subst e
  have hT := hG.1
  have h1 := bookFact_any w' hT
  have h2 := fun W (hb : Below w'.heap.size w' W) => put_any a n cap steps W (hr.call hb) hcap hs (fun W2 h2 => hT W2 (hb.trans (h2.mono hb.size)))
  have hlog := bRun_log steps (min n 70)
  obtain ⟨s, hst⟩ : ∃ s, s = bRun steps (min n 70) := ⟨_, rfl⟩
  rw [← hst] at h2 hlog
  have HL := Lib.hid hlog
  have HL1 := Lib.hid (hlog.set i j m)
  have HG := Lib.hid hG
  have HP := Lib.hid h2
  clear hr hs hT h2 hst hlog hG
  go_enter Tryz.func3, Tryz.ntmps3
  go_wp2_with fail
  go_at_call 7
  refine (h1).mono ?_
  rintro e w1 ⟨rfl, hb1⟩
  go_wp2_with fail
  go_at_call 8
  refine (HP.out _ hb1).mono ?_
  rintro e w2 ⟨⟨Bk, G, vs, vl, rfl, hB⟩, hb2⟩
  have hb12 := below_trans hb1 hb2
  have hb01 := hb1.size
  have HB := Lib.hid hB
  clear hB
  go_wp2_with fail
  go_at_call 10
  refine (Text_any _ _ _ _ _ _ _ _ HB.out (Nat.le_trans HL.out.ok.len (by omega)) HL.out.ok.line).mono ?_
  rintro e w3 ⟨rfl, hb3⟩
  have hb13 := below_trans hb12 hb3
  go_wp2_with fail
  go_at_call 9
  refine (Open_good s HL.out w3 ((HG.out.call hb13).mono hb13.size)).mono ?_
  rintro e w4 ⟨⟨Bo, Go', vso, vlo, rfl, hO⟩, hb4⟩
  have hbel4 := below_trans hb13 hb4
  have HB4 := Lib.hid ((HB.out.call hb3).call hb4)
  have HO4 := Lib.hid hO
  have hrB := (HB.out.call hb3).range
  have hrO := hO.range
  have hbB := HB.out.base
  clear hO hb12 hb1 hb2
  -- what both say
  have hsq := HL.out.ok.sq
  have hTx4 := fun W (h : Below w4.heap.size w4 W) p (hp : p = Bo ∨ p = Bk) => (show Calls Tryz.prog 10 #[.pointer (some ⟨p, 0, none⟩)] W fun e w' => e = .returned (.string (textOf s.2)) ∧ Below W.heap.size W w' from by
    rcases hp with rfl | rfl
    · exact Text_any _ _ _ _ _ _ _ _ (HO4.out.call h) (Nat.le_trans HL.out.ok.len (by omega)) HL.out.ok.line
    · exact Text_any _ _ _ _ _ _ _ _ (HB4.out.call h) (Nat.le_trans HL.out.ok.len (by omega)) HL.out.ok.line)
  have HTX := Lib.hid hTx4
  clear hTx4
  go_wp2_with fail
  go_at_call 10
  refine (HTX.out _ (Below.refl _ _) _ (Or.inl rfl)).mono ?_
  rintro e w5 ⟨rfl, hb5⟩
  go_wp2_with fail
  go_at_call 10
  refine (HTX.out _ hb5 _ (Or.inr rfl)).mono ?_
  rintro e w6 ⟨rfl, hb6⟩
  have hb46 := below_trans hb5 hb6
  go_wp2_with fail
  go_at_call 12
  refine (Rows_any _ _ _ _ _ _ _ _ (HO4.out.call hb46)).mono ?_
  rintro e w7 ⟨⟨G1, vs1, rfl, ho1⟩, hb7⟩
  have hb47 := below_trans hb46 hb7
  have HR1 := Lib.hid ho1.read
  go_wp2_with fail
  go_at_call 12
  refine (Rows_any _ _ _ _ _ _ _ _ (HB4.out.call hb47)).mono ?_
  rintro e w8 ⟨⟨G2, vs2, rfl, ho2⟩, hb8⟩
  have hb48 := below_trans hb47 hb8
  have HR2 := Lib.hid ho2.read
  rw [hsq.1] at HR1 HR2
  have HEE := Lib.hid (ERows_like (some ⟨G1, 0, none⟩) (some ⟨G2, 0, none⟩) 4 4 4 s.1 w8 (HR1.out.call hb8) HR2.out (by omega) (fun k hk => by rw [hsq.2 k hk]; omega))
  clear ho1 ho2
  go_wp2_with fail
  go_at_call 11
  refine (HEE.out).mono ?_
  rintro e w9 ⟨rfl, hb9⟩
  have hb49 := below_trans hb48 hb9
  have hbel9 := below_trans hbel4 hb49
  have HB9 := Lib.hid (HB4.out.call hb49)
  have HO9 := Lib.hid (HO4.out.call hb49)
  have hw9 : w3.heap.size ≤ w9.heap.size := Nat.le_trans hb4.size hb49.size
  have hw49 : w4.heap.size ≤ w9.heap.size := hb49.size
  have hw1 : w1.heap.size ≤ w3.heap.size := Nat.le_trans hrB.1.1 (Nat.le_of_lt hrB.1.2)
  have hw01 : w'.heap.size ≤ w1.heap.size := hb01
  have hS := Set_any w9 w1.heap.size Bk G vs vl s HB9.out (by omega) ((HG.out.call hbel9).mono hw01).1 i j m
  have hE : errV (setErr i j m s.2.length) = .nilIface ∨ errV (setErr i j m s.2.length) = .iface 50 (.int .i64 (setErr i j m s.2.length)) := by
    unfold errV; by_cases h : setErr i j m s.2.length = 0 <;> simp [h]
  have hSO := fun W (h : BookAt W w3.heap.size Bo Go' vso vlo s.1 s.2) (h2 : Below w'.heap.size w' W) (h3 : w3.heap.size ≤ W.heap.size) => Set_any W w3.heap.size Bo Go' vso vlo s h h3 ((HG.out.call h2).mono (by omega)).1 i j m
  generalize setErr i j m s.2.length = x at *
  obtain ⟨s', hs'⟩ : ∃ s', s' = bSet s i j m := ⟨_, rfl⟩
  rw [← hs'] at hS hSO HL1
  have HSO := Lib.hid hSO
  clear hs' hSO HB4 HO4 HTX HR1 HR2 HEE hb5 hb6 hb7 hb8 hb9 hb46 hb47 hb48 hb49 hbel4
  go_wp2_with fail
  go_at_call 13
  refine hS.mono ?_
  rintro e w10 ⟨rfl, ⟨vl2, hB10, hbl⟩, hK10⟩
  have HO10 := Lib.hid (HO9.out.apart HB9.out hK10 (fun e => by have := hrB.1.2; have := hrO.1.1; omega) (fun b hb e => by have := (hrB.2.1 b e).2; have := (hrO.2.1 b hb).1; omega) (fun i j b hi hj hb e => by have := (hrB.2.2 j b hj e).2; have := (hrO.2.2 i b hi hb).1; omega))
  have HB10 := Lib.hid hB10
  have HBL := Lib.hid hbl
  have hbel10 := hbel9.trans ((hK10.below HB9.out).mono hw01)
  have hw10 := hK10.size
  clear hB10 hbl hS hK10
  go_wp2_with fail
  go_at_call 13
  refine (HSO.out _ HO10.out hbel10 (by omega)).mono ?_
  rintro e w11 ⟨rfl, ⟨vlo2, hO11, hblo⟩, hK11⟩
  have HB11 := Lib.hid (HB10.out.apart HO10.out hK11 (fun e => by have := hrB.1.2; have := hrO.1.1; omega) (fun b hb e => by
      have h1 := hrO.2.1 b e
      rcases HBL.out b hb with h | h
      · have := (hrB.2.1 b h).2; omega
      · omega) (fun i j b hi hj hb e => by have := (hrB.2.2 i b hi hb).2; have := (hrO.2.2 j b hj e).1; omega))
  have HO11 := Lib.hid hO11
  have hbel11 := hbel10.trans ((hK11.below HO10.out).mono (by omega))
  clear hO11 hblo hK11 HB10 HO10
  have hsq' := HL1.out.ok.sq
  have HTX := Lib.hid (fun W (h : Below w11.heap.size w11 W) p (hp : p = Bo ∨ p = Bk) => (show Calls Tryz.prog 10 #[.pointer (some ⟨p, 0, none⟩)] W fun e w' => e = .returned (.string (textOf s'.2)) ∧ Below W.heap.size W w' from by
    rcases hp with rfl | rfl
    · exact Text_any _ _ _ _ _ _ _ _ (HO11.out.call h) (Nat.le_trans HL1.out.ok.len (by omega)) HL1.out.ok.line
    · exact Text_any _ _ _ _ _ _ _ _ (HB11.out.call h) (Nat.le_trans HL1.out.ok.len (by omega)) HL1.out.ok.line))
  have HRW := Lib.hid (fun W (h : Below w11.heap.size w11 W) p (hp : p = Bo ∨ p = Bk) => (show Calls Tryz.prog 12 #[.pointer (some ⟨p, 0, none⟩)] W fun e w' => (∃ G', e = .returned (.slice (some ⟨G', 0, none⟩) 4 4) ∧ RowsAt w' (some ⟨G', 0, none⟩) 4 s'.1) ∧ Below W.heap.size W w' from by
    have key : ∀ B Bk G vs vl, BookAt W B Bk G vs vl s'.1 s'.2 → Calls Tryz.prog 12 #[.pointer (some ⟨Bk, 0, none⟩)] W fun e w' => (∃ G', e = .returned (.slice (some ⟨G', 0, none⟩) 4 4) ∧ RowsAt w' (some ⟨G', 0, none⟩) 4 s'.1) ∧ Below W.heap.size W w' := fun B Bk G vs vl hb => by
      refine (Rows_any _ _ _ _ _ _ _ _ hb).mono ?_
      rintro e w2 ⟨⟨G', vs', rfl, ho⟩, h2⟩
      have := ho.read
      rw [hsq'.1] at this
      exact ⟨⟨G', rfl, this⟩, h2⟩
    rcases hp with rfl | rfl
    · exact key _ _ _ _ _ (HO11.out.call h)
    · exact key _ _ _ _ _ (HB11.out.call h)))
  have HDT := Lib.hid (fun W (h : Below w11.heap.size w11 W) p (hp : p = Bo ∨ p = Bk) => (show Calls Tryz.prog 14 #[.pointer (some ⟨p, 0, none⟩)] W fun e w' => e = .returned (.int .i64 (G_det s'.1)) ∧ Below W.heap.size W w' from by
    rcases hp with rfl | rfl
    · exact Det_any _ _ _ _ _ _ _ _ (HO11.out.call h)
    · exact Det_any _ _ _ _ _ _ _ _ (HB11.out.call h)))
  have HEE := Lib.hid (fun W G1 G2 (h1 : RowsAt W (some ⟨G1, 0, none⟩) 4 s'.1) (h2 : RowsAt W (some ⟨G2, 0, none⟩) 4 s'.1) => ERows_like (some ⟨G1, 0, none⟩) (some ⟨G2, 0, none⟩) 4 4 4 s'.1 W h1 h2 (by omega) (fun k hk => by rw [hsq'.2 k hk]; omega))
  clear HB11 HO11 HB9 HO9 HL1 HL hrB hrO HBL HSO hsq hsq' hbB hb13 hb3 hb4
  generalize textOf s'.2 = T at *
  generalize G_det s'.1 = D at *
  go_upto_region 10 with (fail)
  rcases hE with hE | hE
  all_goals
    rw [hE]
    go_region_held3 (fun _ => True) (trivial)
      (first
        | (go_at_call_of 10 Bo; refine (HTX.out _ Cls.start _ (Or.inl rfl)).mono ?_; rintro e wa ⟨rfl, ha⟩; have d1 := below_trans Cls.start ha)
        | (go_at_call_of 10 Bk; refine (HTX.out _ d1 _ (Or.inr rfl)).mono ?_; rintro e wb ⟨rfl, hb⟩; have d2 := below_trans d1 hb)
        | (go_at_call_of 12 Bo; refine (HRW.out _ d2 _ (Or.inl rfl)).mono ?_; rintro e wc ⟨⟨G1, rfl, ho1⟩, hc⟩; have d3 := below_trans d2 hc)
        | (go_at_call_of 12 Bk; refine (HRW.out _ d3 _ (Or.inr rfl)).mono ?_; rintro e wd ⟨⟨G2, rfl, ho2⟩, hd⟩; have d4 := below_trans d3 hd)
        | (go_at_call 11; refine (HEE.out _ _ _ (ho1.call hd) ho2).mono ?_; rintro e we ⟨rfl, he⟩; have d5 := below_trans d4 he)
        | (go_at_call_of 14 Bo; refine (HDT.out _ d5 _ (Or.inl rfl)).mono ?_; rintro e wf ⟨rfl, hf⟩; have d6 := below_trans d5 hf)
        | (go_at_call_of 14 Bk; refine (HDT.out _ d6 _ (Or.inr rfl)).mono ?_; rintro e wg ⟨rfl, hgg⟩; have d7 := below_trans d6 hgg))
    go_wp2_with fail
    go_ret
    exact ⟨rfl, hbel11.trans (d7.mono hbel11.size)⟩
theorem frame_own : ownKnob Tryz.prog.godebug = none := by kernel_rfl
theorem frame_laid : laidOutB Tryz.prog = true := by kernel_rfl
theorem frame_pg : Tryz.prog.globalNamed "internal/strconv.uint64pow10" = some 6 := by kernel_rfl
theorem frame_pt : (Tryz.prog.globals[6]?).map (·.type) = some 160 := by kernel_rfl
theorem frame_pd {H : Type} : (Rows.laid_internal_strconv_uint64pow10 : DataW H) = Lib.tabData .u64 Lib.pow10Tab := by rfl
theorem tab_of_laid {W : World} (h : laidMetH Tryz.prog Rows.bookAgainRow.laid W) : Tab W.heap.size W := by
  have h' : laidMet Tryz.prog Rows.bookAgainRow.laid W := by rw [MakeChecks.laidMetH_plain _ _ _ (by kernel_rfl)] at h; exact h
  have hr : Lib.VarReads Tryz.prog W "internal/strconv.uint64pow10" Rows.laid_internal_strconv_uint64pow10 := Lib.laidMet.reads h' (by simp [Rows.bookAgainRow])
  rw [frame_pd] at hr
  exact Lib.tabBelow_of_tabIs (tabIs_of_reads frame_pg frame_pt Tryz.underlying160 Tryz.underlying141 (by kernel_rfl) (by kernel_rfl) hr)
theorem glob_of_laid {W : World} (h : laidMetH Tryz.prog Rows.bookAgainRow.laid W) (hS : W.ShapedOpen Tryz.prog) : Glob W.heap.size W := by
  have h' : laidMet Tryz.prog Rows.bookAgainRow.laid W := by
    have h2 := h
    rw [MakeChecks.laidMetH_plain _ _ _ (by kernel_rfl)] at h2
    exact h2
  have hr : Lib.VarReads Tryz.prog W "strconv.ErrRange" Rows.laid_strconv_ErrRange := Lib.laidMet.reads h' (by simp [Rows.bookAgainRow])
  exact glob_of (tab_of_laid h) (iface_of_reads (g := 5) (by kernel_rfl) (by kernel_rfl) Tryz.underlying27 hr) hS
noncomputable def laidWorld (os : Os) : World := (World.holding Tryz.prog os ⟨#[], #[], []⟩).layVars Tryz.prog (Rows.bookAgainRow.laid.filter fun x => x.2.handleName?.isNone)
theorem laidWorld_os (os : Os) : (laidWorld os).os = os := World.layVars_os _ _ _
theorem laidWorld_met (os : Os) (args : Array Value) : laidMetH Tryz.prog Rows.bookAgainRow.laid ((laidWorld os).forCall (fun _ _ => 0) ⟨#[], args, []⟩).memory :=
  laidMetH_of_parts (laidMet.of_heap (by simp [laidWorld, World.memory, World.forCall, Input.heap]) (laidMet_over (w0 := (World.holding Tryz.prog os ⟨#[], #[], []⟩)) (by kernel_rfl) (by kernel_rfl))) (by kernel_rfl)
set_option maxRecDepth 100000 in
theorem frame_lifted (os : Os) (started : os.Started) (H : Type) (enc : TypeId × Value → H) :
    ReturnsInHanded {} Tryz.checked os 3 .any (fun w args => (Rows.bookAgainSpec.pre enc Tryz.prog Tryz.f3 Rows.bookAgainRow.domain false w args ∧ laidMetH Tryz.prog Rows.bookAgainRow.laid w) ∧ sizedMet enc Tryz.prog Tryz.f3 (OpenSpec.ofChange Rows.bookAgainSpec) false w args) (Rows.bookAgainSpec.post enc Tryz.prog Tryz.f3 false true false false) := by
  refine returns_and_shaped (C := Tryz.checked) (X := (fun w _ => laidMetH Tryz.prog Rows.bookAgainRow.laid w)) (fun _ _ _ hh h => h.of_heap hh) frame_own started (by kernel_rfl) Tryz.func3
    (ChangeSpec.witness_shaped (enc := enc) (C := Tryz.checked) (os := os) (X := (fun w _ => laidMetH Tryz.prog Rows.bookAgainRow.laid w)) false (laidWorld os) #[.slice none 0 0, .int .i64 0, .int .i64 0, .int .i64 0] 8 (laidWorld_os os) (World.shaped_of_ZipB (by kernel_rfl) (by kernel_rfl)) (by kernel_rfl) (by kernel_rfl) (by kernel_rfl) (laidWorld_met os _)) ?_
  intro W base args ds gs before hval0 hW hcnd _ hLaid hSh _
  have hval : ∀ (j : Nat) t v, Tryz.f3.params[j]? = some t → args[j]? = some v → Value.okWide Tryz.prog W .any base t v := hval0
  have hW' := hW
  obtain ⟨p, q, hA0, hV, rfl, hfz, hnd⟩ := hW
  have hA : DataW.TrodAll enc Tryz.prog W 0 (fun _ => true) true Tryz.f3.params.toList args.toList ds p := hA0
  rw [Tryz.params3] at hA hval
  obtain ⟨v0, vs0, d0, ds0, p0, q0, hargs, rfl, rfl, h0, r0⟩ := trodAll_cons hA
  obtain ⟨v1, vs1, d1, ds1, p1, q1, rfl, rfl, rfl, h1, r1⟩ := trodAll_cons r0
  obtain ⟨v2, vs2, d2, ds2, p2, q2, rfl, rfl, rfl, h2, r2⟩ := trodAll_cons r1
  obtain ⟨v3, vs3, d3, ds3, p3, q3, rfl, rfl, rfl, h3, r3⟩ := trodAll_cons r2
  obtain ⟨rfl, rfl, rfl⟩ := trodAll_nil r3
  obtain rfl : args = #[v0, v1, v2, v3] := by cases args; simp_all
  obtain ⟨rfl, rfl⟩ := trodVars_none hV
  have k0 := h0
  have lt0 : ∀ x ∈ p0, x.block < W.heap.size := by obtain ⟨m, hm⟩ := k0; exact DataW.trod_lt m _ _ _ hm
  obtain ⟨a0, len0, cap0, rfl⟩ := okWide_slice Tryz.underlying22 (hval 0 22 v0 rfl rfl)
  obtain ⟨xs0, hxs0, hcap0, hmax0⟩ := open_rowsAt Tryz.underlying22 Tryz.underlying45 Tryz.underlying3 (by kernel_rfl) (by kernel_rfl) h0
  have k1 := h1
  have lt1 : ∀ x ∈ p1, x.block < W.heap.size := by obtain ⟨m, hm⟩ := k1; exact DataW.trod_lt m _ _ _ hm
  obtain ⟨a1, rfl, rfl, rfl, w1⟩ := open_int Tryz.underlying3 (hval 1 3 v1 rfl rfl) h1
  have k2 := h2
  have lt2 : ∀ x ∈ p2, x.block < W.heap.size := by obtain ⟨m, hm⟩ := k2; exact DataW.trod_lt m _ _ _ hm
  obtain ⟨a2, rfl, rfl, rfl, w2⟩ := open_int Tryz.underlying3 (hval 2 3 v2 rfl rfl) h2
  have k3 := h3
  have lt3 : ∀ x ∈ p3, x.block < W.heap.size := by obtain ⟨m, hm⟩ := k3; exact DataW.trod_lt m _ _ _ hm
  obtain ⟨a3, rfl, rfl, rfl, w3⟩ := open_int Tryz.underlying3 (hval 3 3 v3 rfl rfl) h3
  clear hA0 hval0
  refine (BookAgain_any a0 len0 cap0 xs0 hxs0 hcap0 hmax0 a1 a2 a3 W rfl (glob_of_laid hLaid hSh)).mono fun e W' ⟨he, bel⟩ => ?_
  subst he
  exact ⟨_, rfl, _, _, _, [], _, [], hW', trodAll_mk1 (shut_bool Tryz.underlying4 _), (trodAll_cons_mk (Below.trod frame_laid (by kernel_rfl) (of_decide_eq_true (by kernel_rfl)) k0 bel lt0) (trodAll_cons_mk (Below.trod frame_laid (by kernel_rfl) (of_decide_eq_true (by kernel_rfl)) k1 bel lt1) (trodAll_cons_mk (Below.trod frame_laid (by kernel_rfl) (of_decide_eq_true (by kernel_rfl)) k2 bel lt2) (trodAll_cons_mk (Below.trod frame_laid (by kernel_rfl) (of_decide_eq_true (by kernel_rfl)) k3 bel lt3) trodAll_mk0)))), rfl, bel.frame _, fun h => by cases h⟩

theorem BookAgain_over : Rows.bookAgainRow.holds Tryz.pinned (OpenSpec.ofChange Rows.bookAgainSpec) :=
  OpenClaim.holds_of_wide 3 Tryz.f3 rfl rfl rfl rfl rfl rfl rfl ⟨rfl, rfl, rfl, rfl, rfl⟩ rfl rfl rfl rfl rfl (by kernel_rfl) Tryz.func3 (by kernel_rfl)
    (of_decide_eq_true (by kernel_rfl)) (by unfold Func.isWrapper; first | (rw [if_pos (by decide +kernel)]; kernel_rfl) | (rw [if_neg (by decide +kernel)]; exact ⟨rfl, rfl⟩))
    (fun os started H enc _ => frame_lifted os started H enc)

theorem frame_wants : ∀ t ∈ [22, 3, 3, 3], Tryz.prog.wantsStandIn t = false := by
  intro t ht
  simp only [List.mem_cons, List.not_mem_nil, or_false] at ht
  rcases ht with rfl | rfl | rfl | rfl <;> kernel_rfl
/-- THE STATEMENT: THE TIED CARD -/
theorem BookAgain_holds : Rows.BookAgainCardSaid :=
  Claim7.holds_tied_plain_at .later [] [.data, .data, .data, .data, .sentinel, .sentinel, .pinned] true _ true
    BookAgain_over (fun _ h => by cases h) (by kernel_rfl) (fun _ h => by cases h) bookAgain_row_tie rfl ⟨rfl, rfl⟩ (by kernel_rfl) rfl
    (fun f fn hf hfn => by
      obtain rfl : f = 3 := Option.some.inj ((show Tryz.prog.funcNamed "rankmere/rankmerelaw4.BookAgain" = some 3 by kernel_rfl).symm.trans hf) |>.symm
      obtain rfl : fn = Tryz.f3 := (Option.some.inj (Tryz.func3.symm.trans hfn)).symm
      exact ⟨by kernel_rfl, fun j t ht => by
        rw [Tryz.params3] at ht
        exact frame_wants t (by have := Array.mem_of_getElem? ht; simpa using this)⟩)
    (by kernel_rfl)
end Go.Proofs.YtkpoemfdepjkaaaGreatDoor.BookAgainP
