/- It proves that rankmerelaw4.BookDet, called with any list of lists of integers and any three integers, returns true, and leaves its arguments as they were. The one condition: the three tables of numbers of the library are as the program's text lays them; the card ties them. -/
import Derived.Test.YthmkokbfeodeoaaDoorBookFact
import Derived.Test.YthmkokbfeodeoaaDoorESame
import Derived.Test.YthmkokbfeodeoaaDoorLawIn
import Derived.Test.YthmkokbfeodeoaaDoorOpen
import Derived.Test.YthmkokbfeodeoaaDoorTie
import Derived.Test.YthmkokbfeodeoaaDoorCards
import Derived.ProofKit
import Derived.OpenShut
import Derived.ShutString
import Derived.ChangeOld
import Derived.ChangeVars
import Derived.Lib.SmallJoins
import Derived.LaidLaws
import Derived.LaidMore
import Derived.Stop.Joined
import Derived.SevenTiedAt
import Derived.Lib.LaidU8
import Derived.MakeChecks
namespace Go.Proofs.YthmkokbfeodeoaaDoor.BookDetP
open Go.ChangeShapes Go.WideShapes Go.ChangeAt Go.RowKit Go.Joins
open Go.ChangeMaps (open_string shut_string)
open Go.Proofs.YthmkokbfeodeoaaDoor
set_option linter.unusedVariables false
set_option linter.unusedSimpArgs false

theorem tabIs_of_reads {P : Program} {W : World} {name : String} {k : IntKind} {zs : List Int} {g : Nat} {t e : TypeId} {n : Nat}
    (hg : P.globalNamed name = some g) (hty : (P.globals[g]?).map (·.type) = some t) (ht : P.underlying t = some (.array n e)) (he : P.underlying e = some (.int k)) (hce : P.cellsOf e = 1) (hct : P.cellsOf t = n)
    (h : Lib.VarReads P W name (Lib.tabData k zs)) : Lib.TabIs P W name k zs := by
  obtain ⟨g', t', cs, fuel, p, hg', ht', hvar, hd⟩ := h
  obtain rfl := Option.some.inj (hg.symm.trans hg')
  obtain rfl := Option.some.inj (hty.symm.trans ht')
  unfold Lib.TabIs
  rw [hvar, ← Lib.cells_of_tab ht he hce hct hd]
theorem bRun_ent {w : World} {B Bk G : Nat} {vs : List Value} {vl : Value} {rows : List (List Int)} {lines : List ByteArray} (h : BookAt w B Bk G vs vl rows lines) : Sq 4 rows := h.sq
set_option maxRecDepth 100000 in
set_option maxHeartbeats 1000000 in
theorem BookDet_any (a : Option Addr) (n cap : Nat) (steps : List (List Int)) {w' : World} (hr : RowsAt w' a n steps) (hcap : n ≤ cap) (hs : Small n steps) (i j m : Int) (w : World) (e : w' = w) (hT : Tab w.heap.size w) :
    Calls Tryd.prog 3 #[.slice a n cap, .int .i64 i, .int .i64 j, .int .i64 m] w fun e w' => e = .returned (.bool true) ∧ Below w.heap.size w w' := by
  subst e
  have h1 := bookFact_any w' hT
  have h2 := fun W (hb : Below w'.heap.size w' W) => put_any a n cap steps W (hr.call hb) hcap hs (fun W2 h2 => hT W2 (hb.trans (h2.mono hb.size)))
  obtain ⟨s, hst⟩ : ∃ s, s = bRun steps (min n 70) := ⟨_, rfl⟩
  rw [← hst] at h2
  have HT := Lib.hid hT
  have HP := Lib.hid h2
  clear hr hs hT h2 hst
  go_enter Tryd.func3, Tryd.ntmps3
  go_wp2_with fail
  go_at_call 4
  refine (h1).mono ?_
  rintro e w1 ⟨rfl, hb1⟩
  go_wp2_with fail
  go_at_call 5
  refine (HP.out _ hb1).mono ?_
  rintro e w2 ⟨⟨Bk, G, vs, vl, rfl, hB⟩, hb2⟩
  have hb12 := below_trans hb1 hb2
  have HB := Lib.hid hB
  have hBk := hB.base
  have hlt := hB.lt
  have hsz := hb2.size
  clear hB
  go_wp2_with fail
  go_at_call 6
  refine (Det_any _ _ _ _ _ _ _ _ HB.out).mono ?_
  rintro e w3 ⟨rfl, hb3⟩
  have HB3 := Lib.hid (HB.out.call hb3)
  go_wp2_with fail
  go_at_call 7
  refine (Rows_any _ _ _ _ _ _ _ _ HB3.out).mono ?_
  rintro e w4 ⟨⟨G', vs', rfl, ho⟩, hb4⟩
  have HB4 := Lib.hid (HB3.out.call hb4)
  have HO := Lib.hid (show RowsAt w4 (some ⟨G', 0, none⟩) 4 s.1 from by have := ho.read; rw [HB.out.sq.1] at this; exact this)
  have hb24 := below_trans (below_trans hb12 hb3) hb4
  have hsq := HB.out.sq
  have HSQ := Lib.hid hsq
  clear ho hsq
  by_cases he : addErr i j m s.2.length = 0
  · have hp : placeErr i j m = 0 := by
      unfold addErr at he
      by_cases h : placeErr i j m = 0
      · exact h
      · rw [if_pos h] at he; exact absurd he h
    have hij : i ≠ j := by
      unfold addErr at he
      rw [if_neg (by omega)] at he
      intro h; rw [if_pos h] at he; cases he
    obtain ⟨⟨hi0, hi3⟩, ⟨hj0, hj3⟩, hn0, hn3⟩ := placeErr_ok hp
    have hij' : (i != j) = true := by simp [hij]
    have hB4sz : w1.heap.size ≤ w4.heap.size := by have h1 := hb3.size; have h2 := hb4.size; omega
    have hT4 : Tab w1.heap.size w4 := fun W hW => HT.out W (hb24.trans (hW.mono hb1.size))
    have hA := Add_good w4 w1.heap.size Bk G vs vl s.1 s.2 HB4.out hB4sz hT4 i j m he
    have hdet := det_addTo HSQ.out (p := i.toNat) (q := j.toNat) (by omega) (by omega) (by omega) m
    have h7 := in_any i 0 3
    have h8 := in_any j 0 3
    rw [inB_yes hi0 hi3] at h7
    rw [inB_yes hj0 hj3] at h8
    have HA := Lib.hid hA
    have HD := Lib.hid hdet
    clear hA he hp hij hdet hT4
    go_wp2_with fail
    go_at_call 8
    refine HA.out.mono ?_
    rintro e w5 ⟨rfl, ⟨vl', hB5, _⟩, hK5⟩
    have HB5 := Lib.hid hB5
    have hb5 := hK5.below HB4.out
    have hb15 := hb24.trans (hb5.mono hb1.size)
    clear hB5 hK5
    have hD5 := Det_any _ _ _ _ _ _ _ _ HB5.out
    rw [HD.out] at hD5
    go_wp2_with fail
    go_at_call 6
    refine (hD5).mono ?_
    rintro e w6 ⟨rfl, hb6⟩
    go_wp2_with fail
    go_at_call 10
    refine (h7 _).mono ?_
    rintro e w7 ⟨rfl, rfl⟩
    go_wp2_with fail
    go_at_call 10
    refine (h8 _).mono ?_
    rintro e w8 ⟨rfl, rfl⟩
    go_wp2_with fail
    go_ret
    exact ⟨rfl, below_trans hb15 hb6⟩
  · have hA := Add_bad w4 w1.heap.size Bk G vs vl s.1 s.2 HB4.out i j m he
    rw [errV_pos he] at hA
    generalize addErr i j m s.2.length = v at *
    have HA := Lib.hid hA
    clear hA he
    go_wp2_with fail
    go_at_call 8
    refine HA.out.mono ?_
    rintro e w5 ⟨rfl, hb5⟩
    have HB5 := Lib.hid (HB4.out.call hb5)
    have hb15 := below_trans hb24 hb5
    go_wp2_with fail
    go_at_call 6
    refine (Det_any _ _ _ _ _ _ _ _ HB5.out).mono ?_
    rintro e w6 ⟨rfl, hb6⟩
    have HB6 := Lib.hid (HB5.out.call hb6)
    go_wp2_with fail
    go_at_call 7
    refine (Rows_any _ _ _ _ _ _ _ _ HB6.out).mono ?_
    rintro e w7 ⟨⟨G2, vs2, rfl, ho2⟩, hb7⟩
    have HO2 := Lib.hid (show RowsAt w7 (some ⟨G2, 0, none⟩) 4 s.1 from by have := ho2.read; rw [HSQ.out.1] at this; exact this)
    have HEE := Lib.hid (ERows_like (some ⟨G2, 0, none⟩) (some ⟨G', 0, none⟩) 4 4 4 s.1 w7 HO2.out (HO.out.call (below_trans (below_trans hb5 hb6) hb7)) (by omega) (fun k hk => by rw [HSQ.out.2 k hk]; omega))
    clear ho2
    go_wp2_with fail
    go_at_call 9
    refine (HEE.out).mono ?_
    rintro e w8 ⟨rfl, hb8⟩
    go_wp2_with fail
    go_ret
    exact ⟨rfl, below_trans (below_trans (below_trans hb15 hb6) hb7) hb8⟩
theorem frame_own : ownKnob Tryd.prog.godebug = none := by kernel_rfl
theorem frame_laid : laidOutB Tryd.prog = true := by kernel_rfl
theorem frame_pg : Tryd.prog.globalNamed "internal/strconv.uint64pow10" = some 0 := by kernel_rfl
theorem frame_pt : (Tryd.prog.globals[0]?).map (·.type) = some 75 := by kernel_rfl
theorem frame_pd {H : Type} : (Rows.laid_internal_strconv_uint64pow10 : DataW H) = Lib.tabData .u64 Lib.pow10Tab := by rfl
theorem tab_of_laid {W : World} (h : laidMetH Tryd.prog Rows.bookDetRow.laid W) : Tab W.heap.size W := by
  have h' : laidMet Tryd.prog Rows.bookDetRow.laid W := by rw [MakeChecks.laidMetH_plain _ _ _ (by kernel_rfl)] at h; exact h
  have hr : Lib.VarReads Tryd.prog W "internal/strconv.uint64pow10" Rows.laid_internal_strconv_uint64pow10 := Lib.laidMet.reads h' (by simp [Rows.bookDetRow])
  rw [frame_pd] at hr
  exact Lib.tabBelow_of_tabIs (tabIs_of_reads frame_pg frame_pt Tryd.underlying75 Tryd.underlying69 (by kernel_rfl) (by kernel_rfl) hr)
noncomputable def laidWorld (os : Os) : World := World.doorLaid Tryd.prog 400 os
theorem laidWorld_met (os : Os) (args : Array Value) : laidMetH Tryd.prog Rows.bookDetRow.laid ((laidWorld os).forCall (fun _ _ => 0) ⟨#[], args, []⟩).memory :=
  laidMetH_of_parts3 (fuel := 8) (laidMet_of_run' 8 (by kernel_rfl) (by kernel_rfl)) (by kernel_rfl) (by kernel_rfl)
set_option maxRecDepth 100000 in
theorem frame_lifted (os : Os) (started : os.Started) (H : Type) (enc : TypeId × Value → H) :
    ReturnsInHanded {} Tryd.checked os 3 .any (fun w args => (Rows.bookDetSpec.pre enc Tryd.prog Tryd.f3 Rows.bookDetRow.domain false w args ∧ laidMetH Tryd.prog Rows.bookDetRow.laid w) ∧ sizedMet enc Tryd.prog Tryd.f3 (OpenSpec.ofChange Rows.bookDetSpec) false w args) (Rows.bookDetSpec.post enc Tryd.prog Tryd.f3 false true false false) := by
  refine returnsInHanded_of_change_and (C := Tryd.checked) (X := (fun w _ => laidMetH Tryd.prog Rows.bookDetRow.laid w)) (fun _ _ _ hh h => h.of_heap hh) frame_own started (by kernel_rfl) Tryd.func3
    (ChangeSpec.witness_shaped (enc := enc) (C := Tryd.checked) (os := os) (X := (fun w _ => laidMetH Tryd.prog Rows.bookDetRow.laid w)) false (laidWorld os) #[.slice none 0 0, .int .i64 0, .int .i64 0, .int .i64 0] 8 rfl (World.shaped_of_RefB (by kernel_rfl) (by kernel_rfl)) (by kernel_rfl) (by kernel_rfl) (by kernel_rfl) (laidWorld_met os _)) ?_
  intro W base args ds gs before hval0 hW hcnd _ hLaid _
  have hval : ∀ (j : Nat) t v, Tryd.f3.params[j]? = some t → args[j]? = some v → Value.okWide Tryd.prog W .any base t v := hval0
  have hW' := hW
  obtain ⟨p, q, hA0, hV, rfl, hfz, hnd⟩ := hW
  have hA : DataW.TrodAll enc Tryd.prog W 0 (fun _ => true) true Tryd.f3.params.toList args.toList ds p := hA0
  rw [Tryd.params3] at hA hval
  obtain ⟨v0, vs0, d0, ds0, p0, q0, hargs, rfl, rfl, h0, r0⟩ := trodAll_cons hA
  obtain ⟨v1, vs1, d1, ds1, p1, q1, rfl, rfl, rfl, h1, r1⟩ := trodAll_cons r0
  obtain ⟨v2, vs2, d2, ds2, p2, q2, rfl, rfl, rfl, h2, r2⟩ := trodAll_cons r1
  obtain ⟨v3, vs3, d3, ds3, p3, q3, rfl, rfl, rfl, h3, r3⟩ := trodAll_cons r2
  obtain ⟨rfl, rfl, rfl⟩ := trodAll_nil r3
  obtain rfl : args = #[v0, v1, v2, v3] := by cases args; simp_all
  obtain ⟨rfl, rfl⟩ := trodVars_none hV
  have k0 := h0
  have lt0 : ∀ x ∈ p0, x.block < W.heap.size := by obtain ⟨m, hm⟩ := k0; exact DataW.trod_lt m _ _ _ hm
  obtain ⟨a0, len0, cap0, rfl⟩ := okWide_slice Tryd.underlying22 (hval 0 22 v0 rfl rfl)
  obtain ⟨xs0, hxs0, hcap0, hmax0⟩ := open_rowsAt Tryd.underlying22 Tryd.underlying35 Tryd.underlying3 (by kernel_rfl) (by kernel_rfl) h0
  have k1 := h1
  have lt1 : ∀ x ∈ p1, x.block < W.heap.size := by obtain ⟨m, hm⟩ := k1; exact DataW.trod_lt m _ _ _ hm
  obtain ⟨a1, rfl, rfl, rfl, w1⟩ := open_int Tryd.underlying3 (hval 1 3 v1 rfl rfl) h1
  have k2 := h2
  have lt2 : ∀ x ∈ p2, x.block < W.heap.size := by obtain ⟨m, hm⟩ := k2; exact DataW.trod_lt m _ _ _ hm
  obtain ⟨a2, rfl, rfl, rfl, w2⟩ := open_int Tryd.underlying3 (hval 2 3 v2 rfl rfl) h2
  have k3 := h3
  have lt3 : ∀ x ∈ p3, x.block < W.heap.size := by obtain ⟨m, hm⟩ := k3; exact DataW.trod_lt m _ _ _ hm
  obtain ⟨a3, rfl, rfl, rfl, w3⟩ := open_int Tryd.underlying3 (hval 3 3 v3 rfl rfl) h3
  clear hA0 hval0
  refine (BookDet_any a0 len0 cap0 xs0 hxs0 hcap0 hmax0 a1 a2 a3 W rfl (tab_of_laid hLaid)).mono fun e W' ⟨he, bel⟩ => ?_
  subst he
  exact ⟨_, rfl, _, _, _, [], _, [], hW', trodAll_mk1 (shut_bool Tryd.underlying4 _), (trodAll_cons_mk (Below.trod frame_laid (by kernel_rfl) (of_decide_eq_true (by kernel_rfl)) k0 bel lt0) (trodAll_cons_mk (Below.trod frame_laid (by kernel_rfl) (of_decide_eq_true (by kernel_rfl)) k1 bel lt1) (trodAll_cons_mk (Below.trod frame_laid (by kernel_rfl) (of_decide_eq_true (by kernel_rfl)) k2 bel lt2) (trodAll_cons_mk (Below.trod frame_laid (by kernel_rfl) (of_decide_eq_true (by kernel_rfl)) k3 bel lt3) trodAll_mk0)))), rfl, bel.frame _, fun h => by cases h⟩

theorem BookDet_over : Rows.bookDetRow.holds Tryd.pinned (OpenSpec.ofChange Rows.bookDetSpec) :=
  OpenClaim.holds_of_wide 3 Tryd.f3 rfl rfl rfl rfl rfl rfl rfl ⟨rfl, rfl, rfl, rfl, rfl⟩ rfl rfl rfl rfl rfl (by kernel_rfl) Tryd.func3 (by kernel_rfl)
    (of_decide_eq_true (by kernel_rfl)) (by unfold Func.isWrapper; first | (rw [if_pos (by decide +kernel)]; kernel_rfl) | (rw [if_neg (by decide +kernel)]; exact ⟨rfl, rfl⟩))
    (fun os started H enc _ => frame_lifted os started H enc)

theorem frame_wants : ∀ t ∈ [22, 3, 3, 3], Tryd.prog.wantsStandIn t = false := by
  intro t ht
  simp only [List.mem_cons, List.not_mem_nil, or_false] at ht
  rcases ht with rfl | rfl | rfl | rfl <;> kernel_rfl
/-- THE STATEMENT: THE TIED CARD -/
theorem BookDet_holds : Rows.BookDetCardSaid :=
  Claim7.holds_tied_plain_at .later [] [.data, .data, .data] true _ false
    BookDet_over (fun _ h => by cases h) (by kernel_rfl) (fun _ h => by cases h) bookDet_row_tie rfl ⟨rfl, rfl⟩ (by kernel_rfl) rfl
    (fun f fn hf hfn => by
      obtain rfl : f = 3 := Option.some.inj ((show Tryd.prog.funcNamed "rankmere/rankmerelaw4.BookDet" = some 3 by kernel_rfl).symm.trans hf) |>.symm
      obtain rfl : fn = Tryd.f3 := (Option.some.inj (Tryd.func3.symm.trans hfn)).symm
      exact ⟨by kernel_rfl, fun j t ht => by
        rw [Tryd.params3] at ht
        exact frame_wants t (by have := Array.mem_of_getElem? ht; simpa using this)⟩)
    (by kernel_rfl)
end Go.Proofs.YthmkokbfeodeoaaDoor.BookDetP
