/- It proves that rankmerelaw4.BookTurned, called with any list of lists of integers, any integer and any byte, returns true, and leaves its arguments as they were. The one condition: the variables of the library that its row lists are as the program's text lays them; the card ties them. -/
import Derived.Test.YtkpoemfdepjkaaaGreatDoorBookApart
import Derived.Test.YtkpoemfdepjkaaaGreatDoorFrameS
import Derived.Test.YtkpoemfdepjkaaaGreatDoorESame
import Derived.Test.YtkpoemfdepjkaaaGreatDoorTurnMath
import Derived.Test.YtkpoemfdepjkaaaGreatDoorTold
import Derived.Test.YtkpoemfdepjkaaaGreatDoorOpen
import Derived.Test.YtkpoemfdepjkaaaGreatDoorTie
import Derived.Test.YtkpoemfdepjkaaaGreatDoorCards
import Derived.ProofKit
import Derived.OpenShut
import Derived.ShutString
import Derived.ChangeOld
import Derived.ChangeVars
import Derived.Lib.SmallJoins
import Derived.LaidLaws
import Derived.LaidMore
import Derived.Stop.Joined
import Derived.SevenTiedAt
import Derived.Lib.LaidU8
import Derived.MakeChecks
import Derived.LaidSub
import Derived.Deep.RegionHeld3
import Derived.IntWalk
import Derived.Laws.IdiomStrings
namespace Go.Proofs.YtkpoemfdepjkaaaGreatDoor.BookTurnedP
open Go.ChangeShapes Go.WideShapes Go.ChangeAt Go.RowKit Go.Joins
open Go.ChangeMaps (open_string shut_string)
open Go.Proofs.YtkpoemfdepjkaaaGreatDoor
set_option linter.unusedVariables false
set_option linter.unusedSimpArgs false

theorem ext_upto (s : ByteArray) (k : Nat) : (s.extract 0 k).data.toList = s.data.toList.take k := by
  simp [ByteArray.data_extract]
theorem ext_from (s : ByteArray) (k : Nat) : (s.extract k s.size).data.toList = s.data.toList.drop k := by
  rw [Lib.extract_to_end]
theorem byte_get (s : ByteArray) (l : List UInt8) (hl : l = s.data.toList) {k : Nat} (hk : k < s.size) (h2 : k < l.length) : s[k] = l[k] := by
  subst hl
  simp [ByteArray.getElem_eq_getElem_data]
theorem count_snoc (s : ByteArray) (l : List UInt8) (hl : l = s.data.toList) {k : Nat} (hk : k < s.size) : (l.take (k + 1)).count 10 = (l.take k).count 10 + (if s[k] = 10 then 1 else 0) := by
  have h2 : k < l.length := by rw [hl, size_list]; exact hk
  rw [List.take_add_one, List.getElem?_eq_getElem h2, Option.toList_some, List.count_append, List.count_singleton, byte_get s l hl hk h2]
  by_cases h : l[k] = 10
  · simp [h]
  · simp [h]
theorem byte_beq {x y : UInt8} : (((x.toNat : Int) == (y.toNat : Int)) = true ∧ x = y) ∨ (((x.toNat : Int) == (y.toNat : Int)) = false ∧ x ≠ y) := by
  by_cases h : x = y
  · exact Or.inl ⟨by simp [h], h⟩
  · refine Or.inr ⟨beq_eq_false_iff_ne.2 fun e => h (UInt8.toNat_inj.1 (by omega)), h⟩
theorem u8_of {c : Int} (h : (Lit.int .u8 c).wf = true) : ∃ d : UInt8, c = (d.toNat : Int) := by
  have h2 : 0 ≤ c ∧ c ≤ 255 := by
    simp only [Lit.wf, Bool.and_eq_true, decide_eq_true_eq] at h
    exact h
  refine ⟨UInt8.ofNat c.toNat, ?_⟩
  rw [UInt8.toNat_ofNat']
  omega
set_option maxRecDepth 100000 in
set_option maxHeartbeats 4000000 in
theorem BookTurned_any (a : Option Addr) (n cap : Nat) (steps : List (List Int)) {w' : World} (hr : RowsAt w' a n steps) (hcap : n ≤ cap) (hs : Small n steps) (ii c : Int) (hcw : (Lit.int .u8 c).wf = true) (w : World) (e : w' = w) (hG : Glob w.heap.size w) (hg : Handle w) :
    Calls Tryz.prog 5 #[.slice a n cap, .int .i64 ii, .int .u8 c] w fun e w' => e = .returned (.bool true) ∧ Below w.heap.size w w' := by
  subst e
  obtain ⟨d, rfl⟩ := u8_of hcw
  have hT := hG.1
  have h1 := bookFact_any w' hT
  have h2 := fun W (hb : Below w'.heap.size w' W) => put_any a n cap steps W (hr.call hb) hcap hs (fun W2 h2 => hT W2 (hb.trans (h2.mono hb.size)))
  have HTA := Lib.hid (fun A R x ht hx hc hxc => turn_all steps (min n 70) A R x d ht hx hc hxc)
  have HL := Lib.hid (bRun_log steps (min n 70))
  obtain ⟨s0, hs0⟩ : ∃ s0, s0 = bRun steps (min n 70) := ⟨_, rfl⟩
  rw [← hs0] at HTA HL h2
  have HG := Lib.hid hG
  have HH := Lib.hid hg
  have HP := Lib.hid h2
  have hT9 := HL.out.short
  have HTL := Lib.hid (HL.out.ok.line)
  have HLEN := Lib.hid (HL.out.ok.len)
  clear hr hs hT h2 hs0 hG HL hg hcw
  go_enter Tryz.func5, Tryz.ntmps5
  go_wp2_with fail
  go_at_call 7
  refine (h1).mono ?_
  rintro e w1 ⟨rfl, hb1⟩
  go_wp2_with fail
  go_at_call 8
  refine (HP.out _ hb1).mono ?_
  rintro e w2 ⟨⟨Bk, G, vs, vl, rfl, hB⟩, hb2⟩
  have hb12 := below_trans hb1 hb2
  have hTx := Text_any _ _ _ _ _ _ _ _ hB (Nat.le_trans HLEN.out (by omega)) HTL.out
  generalize textOf s0.2 = T at *
  clear hB
  go_wp2_with fail
  go_at_call 10
  refine (hTx).mono ?_
  rintro e w3 ⟨rfl, hb3⟩
  have hb13 := below_trans hb12 hb3
  clear hTx hb12 hb1 hb2 hb3
  by_cases hm0 : ii < 0
  · go_wp2_with fail
    go_ret
    exact ⟨rfl, hb13⟩
  · obtain ⟨m, rfl⟩ : ∃ m : Nat, ii = m := ⟨ii.toNat, by omega⟩
    by_cases hm1 : T.size ≤ m
    · have hmi : ¬ (m : Int) < (T.size : Int) := by omega
      have hmi2 : (T.size : Int) ≤ (m : Int) := by omega
      go_wp2_with fail
      go_ret
      exact ⟨rfl, hb13⟩
    · have hmT : m < T.size := by omega
      have hmi : (m : Int) < (T.size : Int) := by omega
      have hmi0 : (0 : Int) ≤ (m : Int) := by omega
      have hmi2 : ¬ (T.size : Int) ≤ (m : Int) := by omega
      obtain ⟨l, hl⟩ : ∃ l, l = T.data.toList := ⟨_, rfl⟩
      have hml : m < l.length := by rw [hl, size_list]; exact hmT
      have hxl := byte_get T l hl hmT hml
      rw [← hl] at HTA
      obtain ⟨x, hx⟩ : ∃ x, x = T[m]'hmT := ⟨_, rfl⟩
      have b1 := @byte_beq x 10
      have b2 := @byte_beq d 10
      have b3 := @byte_beq x d
      rw [show ((10 : UInt8).toNat : Int) = 10 from rfl] at b1 b2
      rw [hx] at b1 b3
      rcases b1 with ⟨b1, -⟩ | ⟨b1, c1⟩
      · clear b2 b3 HTA hx hxl
        go_wp2_with fail
        go_ret
        exact ⟨rfl, hb13⟩
      rcases b2 with ⟨b2, -⟩ | ⟨b2, c2⟩
      · clear b3 HTA hx hxl
        go_wp2_with fail
        go_ret
        exact ⟨rfl, hb13⟩
      rcases b3 with ⟨b3, -⟩ | ⟨b3, c3⟩
      · clear HTA hx hxl
        go_wp2_with fail
        go_ret
        exact ⟨rfl, hb13⟩
      rw [hxl] at c1 c3
      obtain ⟨e, mm, s, hop, he, hmm⟩ := HTA.out (l.take m) (l.drop (m + 1)) l[m] (by rw [List.getElem_cons_drop, List.take_append_drop]) c1 c2 c3
      have HTD := Lib.hid hl
      obtain ⟨T2, hT2⟩ : ∃ T2 : ByteArray, T2 = T.extract 0 m ++ ⟨#[d]⟩ ++ T.extract (m + 1) T.size := ⟨_, rfl⟩
      have hopn : ∀ W, Below w3.heap.size w3 W → Calls Tryz.prog 9 #[.string T2] W fun e' w' => e' = .returned (.tuple #[.pointer none, .int .i64 (mm : Nat), .iface 50 (.int .i64 e)]) ∧ Below W.heap.size W w' := fun W hW => by
        have hb := below_trans hb13 hW
        refine (Open_any T2 W ((HG.out.call hb).mono hb.size)).mono ?_
        rintro e' w' ⟨h, hb'⟩
        rw [show T2.data.toList = l.take m ++ d :: l.drop (m + 1) by rw [hT2, app_list, app_list, ext_upto, ext_from, ← hl]; simp, hop] at h
        refine ⟨?_, hb'⟩
        rcases h with ⟨Bk, G, vs, vl, -, h0, -⟩ | ⟨h, -⟩
        · simp only at h0; omega
        · rw [h, errV_pos (by simp only; omega)]
      have HOP := Lib.hid hopn
      have HE := Lib.hid he
      have HT2 := Lib.hid hT2
      obtain ⟨cm, hcm⟩ : ∃ cm, cm = (l.take m).count 10 := ⟨_, rfl⟩
      rw [← hcm] at hmm
      have HCM := Lib.hid hcm
      have HMM := Lib.hid hmm
      have hcml : cm ≤ m := by rw [hcm]; exact Nat.le_trans List.count_le_length (List.length_take_le _ _)
      clear hop hopn hT2 hl HTA hx hxl c1 c2 c3 he hcm hmm hml
      go_wp2_with fail
      go_loopg [9, 10] (m + 1) (fun g lv iv wr => ∃ k : Nat, k ≤ m ∧ m - k < g ∧ lv = .int .i64 ((((l.take k).count 10 + 1 : Nat)) : Int) ∧ iv = .int .i64 k ∧ wr = w3)
      case atStart => exact ⟨0, by omega, by omega, rfl, rfl, rfl⟩
      case round =>
        obtain ⟨k, hk, hg, rfl, rfl, rfl⟩ := hrel
        by_cases hlt : k < m
        · have hki : (k : Int) < (m : Int) := by omega
          have hk0 : (0 : Int) ≤ k := by omega
          have hkT : k < T.size := by omega
          have hkTi : (k : Int) < (T.size : Int) := by omega
          have hsn := count_snoc T l HTD.out hkT
          have hcl : (l.take k).count 10 ≤ k := Nat.le_trans List.count_le_length (List.length_take_le _ _)
          have bk := @byte_beq (T[k]'hkT) 10
          rw [show ((10 : UInt8).toNat : Int) = 10 from rfl] at bk
          rcases bk with ⟨hcb, hc⟩ | ⟨hcb, hc⟩
          · rw [if_pos hc] at hsn
            have HSN := Lib.hid hsn
            clear hsn hc b1 b3
            generalize (l.take k).count 10 = ck at *
            go_wp2_with fail
            go_roundg (m - k)
            case measure => omega
            case rel => exact ⟨k + 1, by omega, by omega, by rw [HSN.out]; go_num, by go_num, rfl⟩
          · rw [if_neg hc] at hsn
            have HSN := Lib.hid hsn
            clear hsn hc b1 b3
            generalize (l.take k).count 10 = ck at *
            go_wp2_with fail
            go_roundg (m - k)
            case measure => omega
            case rel => exact ⟨k + 1, by omega, by omega, (by rw [HSN.out]; try rfl), by go_num, rfl⟩
        · obtain rfl : k = m := by omega
          rw [← HCM.out, ← HMM.out]
          clear hg hlt
          have hk0 : (0 : Int) ≤ k := by omega
          have hkl : (k : Int) ≤ (T.size : Int) := by omega
          have hkl1 : (k : Int) + 1 ≤ (T.size : Int) := by omega
          have hwr : IntKind.i64.wrap ((k : Int) + 1) = (k : Int) + 1 := IntWalk.i64_in _ (by omega)
          have hk1 : (0 : Int) ≤ (k : Int) + 1 := by omega
          have hk2 : ((k : Int) + 1).toNat = k + 1 := by omega
          have hd0 : Below wr.heap.size wr ((wr.alloc (.cells #[.int .u8 d.toNat] 5)).drew) := ((Below.refl _ _).alloc (Nat.le_refl _) _).trans Cls.start
          have hcv : (convert 42 9 (.slice (some ⟨wr.heap.size, 0, none⟩) 1 1)).run Tryz.prog ((wr.alloc (.cells #[.int .u8 d.toNat] 5)).drew) = .ok (.string ⟨#[d]⟩) ((wr.alloc (.cells #[.int .u8 d.toNat] 5)).drew) :=
            run_convert_bytes_back ((wr.alloc (.cells #[.int .u8 d.toNat] 5)).drew) 42 9 5 ⟨wr.heap.size, 0, none⟩ 1 [d] Tryz.underlying42 Tryz.underlying5 Tryz.underlying9 (fun j hj => by
              obtain rfl : j = 0 := by simpa using hj
              simp [Addr.add])
          go_upto_region 13 with (fail)
          go_region_with ((go_at_call 9; rw [← HT2.out]; refine (HOP.out _ (by exact hd0)).mono ?_; rintro e' w4 ⟨rfl, hb4⟩))
          have hbel := below_trans hb13 (below_trans hd0 hb4)
          clear hcv hd0 hb4
          rcases HE.out with he2 | he2
          · have hER := EError_any 2 2 w4 (HH.out.call hbel)
            rw [show ((2 : Int) == 2) = true by decide, errV_pos (by decide)] at hER
            rw [he2]
            clear he2
            go_wp2_with fail
            go_at_call 16
            refine hER.mono ?_
            rintro e' w5 ⟨rfl, hb5⟩
            go_wp2_with fail
            go_ret
            exact ⟨rfl, below_trans hbel hb5⟩
          · have hER := EError_any 6 2 w4 (HH.out.call hbel)
            have hER2 := fun W (h : Below w4.heap.size w4 W) => EError_any 6 6 W (HH.out.call (below_trans hbel h))
            rw [show ((6 : Int) == 2) = false by decide, errV_pos (by decide)] at hER
            simp only [show ((6 : Int) == 6) = true by decide, errV_pos (show (6 : Int) ≠ 0 by decide)] at hER2
            have HR2 := Lib.hid hER2
            rw [he2]
            clear he2 hER2
            go_wp2_with fail
            go_at_call 16
            refine hER.mono ?_
            rintro e' w5 ⟨rfl, hb5⟩
            go_wp2_with fail
            go_at_call 16
            refine (HR2.out _ hb5).mono ?_
            rintro e' w6 ⟨rfl, hb6⟩
            go_wp2_with fail
            go_ret
            exact ⟨rfl, below_trans hbel (below_trans hb5 hb6)⟩
theorem frame_own : ownKnob Tryz.prog.godebug = none := by kernel_rfl
theorem frame_laid : laidOutB Tryz.prog = true := by kernel_rfl
theorem frame_pg : Tryz.prog.globalNamed "internal/strconv.uint64pow10" = some 6 := by kernel_rfl
theorem frame_pt : (Tryz.prog.globals[6]?).map (·.type) = some 160 := by kernel_rfl
theorem frame_pd {H : Type} : (Rows.laid_internal_strconv_uint64pow10 : DataW H) = Lib.tabData .u64 Lib.pow10Tab := by rfl
theorem tab_of_laid {W : World} (h : laidMetH Tryz.prog Rows.bookTurnedRow.laid W) : Tab W.heap.size W := by
  have h' : laidMet Tryz.prog (Rows.bookTurnedRow.laid.filter fun x => x.2.handleName?.isNone) W := (laidMetH_iff.1 h).1
  have hr : Lib.VarReads Tryz.prog W "internal/strconv.uint64pow10" Rows.laid_internal_strconv_uint64pow10 := Lib.laidMet.reads h' (List.mem_filter.2 ⟨by simp [Rows.bookTurnedRow], by kernel_rfl⟩)
  rw [frame_pd] at hr
  exact Lib.tabBelow_of_tabIs (tabIs_of_reads frame_pg frame_pt Tryz.underlying160 Tryz.underlying141 (by kernel_rfl) (by kernel_rfl) hr)
theorem glob_of_laid {W : World} (h : laidMetH Tryz.prog Rows.bookTurnedRow.laid W) (hS : W.ShapedOpen Tryz.prog) : Glob W.heap.size W := by
  have h' : laidMet Tryz.prog (Rows.bookTurnedRow.laid.filter fun x => x.2.handleName?.isNone) W := (laidMetH_iff.1 h).1
  have hr : Lib.VarReads Tryz.prog W "strconv.ErrRange" Rows.laid_strconv_ErrRange := Lib.laidMet.reads h' (List.mem_filter.2 ⟨by simp [Rows.bookTurnedRow], by kernel_rfl⟩)
  exact glob_of (tab_of_laid h) (iface_of_reads (g := 5) (by kernel_rfl) (by kernel_rfl) Tryz.underlying27 hr) hS
theorem frame_et : Tryz.prog.globalNamed "errors.errorType" = some 0 := by kernel_rfl
theorem frame_rt : (Tryz.prog.cutTypes.find? (·.1 == "internal/reflectlite.rtype")).map (·.2) = some 120 := by kernel_rfl
theorem frame_oneRow : ((List.range 198).filter fun t => Tryz.prog.rowNamed t [101, 114, 114, 111, 114]) = [27] := by kernel_rfl
theorem frame_size : Tryz.prog.types.size = 198 := by kernel_rfl
theorem handle_of_laid {W : World} (h : laidMetH Tryz.prog Rows.bookTurnedRow.laid W) : Handle W := by
  have h2 : ∃ name u ty, (Rows.laid_errors_errorType : DataW Unit).handleName? = some name ∧ (Tryz.prog.cutTypes.find? (·.1 == "internal/reflectlite.rtype")).map (·.2) = some u ∧ ty < Tryz.prog.types.size ∧ Tryz.prog.rowNamed ty name = true ∧ W.var? Tryz.prog "errors.errorType" = some #[.iface u (.agg #[typeHandle Tryz.prog ty])] := (laidMetH_iff.1 h).2 ("errors.errorType", Rows.laid_errors_errorType) (List.mem_filter.2 ⟨by simp [Rows.bookTurnedRow], by kernel_rfl⟩)
  obtain ⟨name, u, ty, e1, e2, e3, e4, e5⟩ := h2
  have en : name = [101, 114, 114, 111, 114] := (Option.some.inj e1).symm
  subst en
  obtain rfl := Option.some.inj (frame_rt.symm.trans e2)
  have hm : ty ∈ (List.range 198).filter fun t => Tryz.prog.rowNamed t [101, 114, 114, 111, 114] := List.mem_filter.2 ⟨List.mem_range.2 (by rw [← frame_size]; exact e3), e4⟩
  rw [frame_oneRow] at hm
  obtain rfl := List.mem_singleton.1 hm
  have hh : typeHandle Tryz.prog 27 = .pointer (some ⟨9, 27, none⟩) := by kernel_rfl
  rw [hh] at e5
  unfold Handle
  simpa using World.var?_cell frame_et e5 0
noncomputable def laidWorld (os : Os) : World := (World.doorLaid Tryz.prog 400 os).layVars Tryz.prog (Rows.bookTurnedRow.laid.filter fun x => x.2.handleName?.isNone)
theorem laidWorld_os (os : Os) : (laidWorld os).os = os := World.layVars_os _ _ _
theorem laidWorld_met (os : Os) (args : Array Value) : laidMetH Tryz.prog Rows.bookTurnedRow.laid ((laidWorld os).forCall (fun _ _ => 0) ⟨#[], args, []⟩).memory :=
  laidMetH_of_parts (laidMet.of_heap (by simp [laidWorld, World.memory, World.forCall, Input.heap]) (laidMet_over (w0 := (World.doorLaid Tryz.prog 400 os)) (by kernel_rfl) (by kernel_rfl))) (by kernel_rfl)
set_option maxRecDepth 100000 in
theorem frame_lifted (os : Os) (started : os.Started) (H : Type) (enc : TypeId × Value → H) :
    ReturnsInHanded {} Tryz.checked os 5 .any (fun w args => (Rows.bookTurnedSpec.pre enc Tryz.prog Tryz.f5 Rows.bookTurnedRow.domain false w args ∧ laidMetH Tryz.prog Rows.bookTurnedRow.laid w) ∧ sizedMet enc Tryz.prog Tryz.f5 (OpenSpec.ofChange Rows.bookTurnedSpec) false w args) (Rows.bookTurnedSpec.post enc Tryz.prog Tryz.f5 false true false false) := by
  refine returns_and_shaped (C := Tryz.checked) (X := (fun w _ => laidMetH Tryz.prog Rows.bookTurnedRow.laid w)) (fun _ _ _ hh h => h.of_heap hh) frame_own started (by kernel_rfl) Tryz.func5
    (ChangeSpec.witness_shaped (enc := enc) (C := Tryz.checked) (os := os) (X := (fun w _ => laidMetH Tryz.prog Rows.bookTurnedRow.laid w)) false (laidWorld os) #[.slice none 0 0, .int .i64 0, .int .u8 0] 8 (laidWorld_os os) (World.shaped_of_ZipB (by kernel_rfl) (by kernel_rfl)) (by kernel_rfl) (by kernel_rfl) (by kernel_rfl) (laidWorld_met os _)) ?_
  intro W base args ds gs before hval0 hW hcnd _ hLaid hSh _
  have hval : ∀ (j : Nat) t v, Tryz.f5.params[j]? = some t → args[j]? = some v → Value.okWide Tryz.prog W .any base t v := hval0
  have hW' := hW
  obtain ⟨p, q, hA0, hV, rfl, hfz, hnd⟩ := hW
  have hA : DataW.TrodAll enc Tryz.prog W 0 (fun _ => true) true Tryz.f5.params.toList args.toList ds p := hA0
  rw [Tryz.params5] at hA hval
  obtain ⟨v0, vs0, d0, ds0, p0, q0, hargs, rfl, rfl, h0, r0⟩ := trodAll_cons hA
  obtain ⟨v1, vs1, d1, ds1, p1, q1, rfl, rfl, rfl, h1, r1⟩ := trodAll_cons r0
  obtain ⟨v2, vs2, d2, ds2, p2, q2, rfl, rfl, rfl, h2, r2⟩ := trodAll_cons r1
  obtain ⟨rfl, rfl, rfl⟩ := trodAll_nil r2
  obtain rfl : args = #[v0, v1, v2] := by cases args; simp_all
  obtain ⟨rfl, rfl⟩ := trodVars_none hV
  have k0 := h0
  have lt0 : ∀ x ∈ p0, x.block < W.heap.size := by obtain ⟨m, hm⟩ := k0; exact DataW.trod_lt m _ _ _ hm
  obtain ⟨a0, len0, cap0, rfl⟩ := okWide_slice Tryz.underlying22 (hval 0 22 v0 rfl rfl)
  obtain ⟨xs0, hxs0, hcap0, hmax0⟩ := open_rowsAt Tryz.underlying22 Tryz.underlying45 Tryz.underlying3 (by kernel_rfl) (by kernel_rfl) h0
  have k1 := h1
  have lt1 : ∀ x ∈ p1, x.block < W.heap.size := by obtain ⟨m, hm⟩ := k1; exact DataW.trod_lt m _ _ _ hm
  obtain ⟨a1, rfl, rfl, rfl, w1⟩ := open_int Tryz.underlying3 (hval 1 3 v1 rfl rfl) h1
  have k2 := h2
  have lt2 : ∀ x ∈ p2, x.block < W.heap.size := by obtain ⟨m, hm⟩ := k2; exact DataW.trod_lt m _ _ _ hm
  obtain ⟨a2, rfl, rfl, rfl, w2⟩ := open_int Tryz.underlying5 (hval 2 5 v2 rfl rfl) h2
  clear hA0 hval0
  refine (BookTurned_any a0 len0 cap0 xs0 hxs0 hcap0 hmax0 a1 a2 w2 W rfl (glob_of_laid hLaid hSh) (handle_of_laid hLaid)).mono fun e W' ⟨he, bel⟩ => ?_
  subst he
  exact ⟨_, rfl, _, _, _, [], _, [], hW', trodAll_mk1 (shut_bool Tryz.underlying4 _), (trodAll_cons_mk (Below.trod frame_laid (by kernel_rfl) (of_decide_eq_true (by kernel_rfl)) k0 bel lt0) (trodAll_cons_mk (Below.trod frame_laid (by kernel_rfl) (of_decide_eq_true (by kernel_rfl)) k1 bel lt1) (trodAll_cons_mk (Below.trod frame_laid (by kernel_rfl) (of_decide_eq_true (by kernel_rfl)) k2 bel lt2) trodAll_mk0))), rfl, bel.frame _, fun h => by cases h⟩

theorem BookTurned_over : Rows.bookTurnedRow.holds Tryz.pinned (OpenSpec.ofChange Rows.bookTurnedSpec) :=
  OpenClaim.holds_of_wide 5 Tryz.f5 rfl rfl rfl rfl rfl rfl rfl ⟨rfl, rfl, rfl, rfl, rfl⟩ rfl rfl rfl rfl rfl (by kernel_rfl) Tryz.func5 (by kernel_rfl)
    (of_decide_eq_true (by kernel_rfl)) (by unfold Func.isWrapper; first | (rw [if_pos (by decide +kernel)]; kernel_rfl) | (rw [if_neg (by decide +kernel)]; exact ⟨rfl, rfl⟩))
    (fun os started H enc _ => frame_lifted os started H enc)

theorem frame_wants : ∀ t ∈ [22, 3, 5], Tryz.prog.wantsStandIn t = false := by
  intro t ht
  simp only [List.mem_cons, List.not_mem_nil, or_false] at ht
  rcases ht with rfl | rfl | rfl <;> kernel_rfl
/-- THE STATEMENT: THE TIED CARD -/
theorem BookTurned_holds : Rows.BookTurnedCardSaid :=
  Claim7.holds_tied_plain_at .later [] [.data, .data, .data, .data, .handle, .sentinel, .sentinel, .pinned] true _ true
    BookTurned_over (fun _ h => by cases h) (by kernel_rfl) (fun _ h => by cases h) bookTurned_row_tie rfl ⟨rfl, rfl⟩ (by kernel_rfl) rfl
    (fun f fn hf hfn => by
      obtain rfl : f = 5 := Option.some.inj ((show Tryz.prog.funcNamed "rankmere/rankmerelaw4.BookTurned" = some 5 by kernel_rfl).symm.trans hf) |>.symm
      obtain rfl : fn = Tryz.f5 := (Option.some.inj (Tryz.func5.symm.trans hfn)).symm
      exact ⟨by kernel_rfl, fun j t ht => by
        rw [Tryz.params5] at ht
        exact frame_wants t (by have := Array.mem_of_getElem? ht; simpa using this)⟩)
    (by kernel_rfl)
end Go.Proofs.YtkpoemfdepjkaaaGreatDoor.BookTurnedP
