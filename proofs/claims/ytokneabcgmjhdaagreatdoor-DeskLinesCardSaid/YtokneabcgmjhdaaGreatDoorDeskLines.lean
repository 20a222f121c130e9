/- It proves that rankmerelaw4.DeskLines, called with any text, returns true, and leaves its argument as it was. The one condition: the variables of the library that its row lists are as the program's text lays them; the card ties them. -/
import Derived.Test.YtokneabcgmjhdaaGreatDoorDeskRun
import Derived.Test.YtokneabcgmjhdaaGreatDoorDeskB
import Derived.Test.YtokneabcgmjhdaaGreatDoorDeskFact
import Derived.Test.YtokneabcgmjhdaaGreatDoorFrameS
import Derived.Test.YtokneabcgmjhdaaGreatDoorTie
import Derived.Test.YtokneabcgmjhdaaGreatDoorCards
import Derived.ProofKit
import Derived.OpenShut
import Derived.ShutString
import Derived.ChangeOld
import Derived.ChangeVars
import Derived.Lib.SmallJoins
import Derived.LaidLaws
import Derived.LaidMore
import Derived.Stop.Joined
import Derived.SevenTiedAt
import Derived.Lib.LaidU8
import Derived.MakeChecks
import Derived.LaidSub
namespace Go.Proofs.YtokneabcgmjhdaaGreatDoor.DeskLinesP
open Go.ChangeShapes Go.WideShapes Go.ChangeAt Go.RowKit Go.Joins
open Go.ChangeMaps (open_string shut_string)
open Go.Proofs.YtokneabcgmjhdaaGreatDoor
set_option linter.unusedVariables false
set_option linter.unusedSimpArgs false

/-- lines of a text, so many bytes told -/
def cntL (l : List UInt8) (k : Nat) : Nat := (l.take k).count 10 + if k = l.length ∧ l ≠ [] ∧ l.getLast? ≠ some 10 then 1 else 0
theorem cnt_take (l : List UInt8) {k : Nat} (h : k < l.length) : (l.take (k + 1)).count 10 = (l.take k).count 10 + (if l.getD k 0 = 10 then 1 else 0) := by
  rw [List.take_add_one, List.getElem?_eq_getElem h, Option.toList_some, List.count_append, List.count_singleton, List.getD_eq_getElem?_getD, List.getElem?_eq_getElem h, Option.getD_some]
  by_cases hx : l[k] = 10
  · simp [hx]
  · simp [hx]
theorem cnt_step (l : List UInt8) {k : Nat} (h : k < l.length) : cntL l (k + 1) = cntL l k + (if l.getD k 0 = 10 ∨ k + 1 = l.length then 1 else 0) := by
  have h0 := cnt_take l h
  unfold cntL
  rw [h0, if_neg (show ¬ (k = l.length ∧ _) from fun h => by omega)]
  by_cases hk : k + 1 = l.length
  · have hne : l ≠ [] := fun e => by rw [e] at h; simp at h
    have hla : l.getLast? = some (l.getD k 0) := by
      rw [List.getLast?_eq_getElem?, show l.length - 1 = k by omega, List.getElem?_eq_getElem h, List.getD_eq_getElem?_getD, List.getElem?_eq_getElem h]
      rfl
    by_cases hx : l.getD k 0 = 10
    · rw [if_pos hx, if_pos (Or.inl hx), if_neg (fun e => e.2.2 (by rw [hla, hx]))]
    · rw [if_neg hx, if_pos (Or.inr hk), if_pos ⟨hk, hne, fun e => hx (by rw [hla] at e; exact Option.some.inj e)⟩]
  · rw [if_neg (show ¬ (k + 1 = l.length ∧ _) from fun e => hk e.1)]
    by_cases hx : l.getD k 0 = 10
    · rw [if_pos hx, if_pos (Or.inl hx)]
    · rw [if_neg hx, if_neg (fun e => by rcases e with e | e; exact hx e; exact hk e)]
theorem cnt_all (l : List UInt8) : cntL l l.length = l.count 10 + (if l = [] ∨ l.getLast? = some 10 then 0 else 1) := by
  unfold cntL
  rw [List.take_length]
  by_cases h1 : l = []
  · rw [if_neg (fun e => e.2.1 h1), if_pos (Or.inl h1)]
  · by_cases h2 : l.getLast? = some 10
    · rw [if_neg (fun e => e.2.2 h2), if_pos (Or.inr h2)]
    · rw [if_pos ⟨rfl, h1, h2⟩, if_neg (fun e => by rcases e with e | e; exact h1 e; exact h2 e)]
theorem cnt_le (l : List UInt8) {k : Nat} (h : k ≤ l.length) : cntL l k ≤ k + 1 := by
  have h1 := List.count_le_length (a := (10 : UInt8)) (l := l.take k)
  have h2 := List.length_take_le k l
  unfold cntL
  split <;> omega
set_option maxRecDepth 100000 in
set_option maxHeartbeats 4000000 in
theorem DeskLines_any (t : ByteArray) (ht : t.size ≤ maxLen) (w : World) (hG : Glob w.heap.size w) (hg : Handle w) :
    Calls Tryz.prog 5 #[.string t] w fun e w' => e = .returned (.bool true) ∧ Below w.heap.size w w' := by
  have hD := Run_list ⟨#[115, 101, 116, 32, 48, 32, 48, 32, 49, 10, 10, 98]⟩ _ rfl hG hg w (Below.refl _ _)
  rw [fact_lines] at hD
  have HD := Lib.hid (show Calls Tryz.prog 8 #[.string ⟨#[115, 101, 116, 32, 48, 32, 48, 32, 49, 10, 10, 98]⟩] w fun e w' => e = .returned (.string ⟨#[111, 107, 10, 98, 97, 100, 10, 98, 97, 100, 10]⟩) ∧ Below w.heap.size w w' from hD)
  have HRT := Lib.hid (fun W h => Run_list t _ rfl hG hg W h)
  obtain ⟨l, hl⟩ : ∃ l, l = t.data.toList := ⟨_, rfl⟩
  have hll : l.length = t.size := by rw [hl, size_list]
  rw [← hl] at HRT
  have HL := Lib.hid hl
  have HLL := Lib.hid hll
  clear hD hG hg hl hll
  go_enter Tryz.func5, Tryz.ntmps5
  go_wp2_with fail
  go_at_call 8
  refine (HD.out).mono ?_
  rintro e w1 ⟨rfl, hb1⟩
  clear HD
  by_cases h3 : 3000 < t.size
  · have h3i : (3000 : Int) < t.size := by omega
    have hE : sessE l = kLong := if_pos (by rw [HLL.out]; exact h3)
    have hrt := HRT.out w1 hb1
    rw [hE] at hrt
    have HRX := Lib.hid (show Calls Tryz.prog 8 #[.string t] w1 fun e w' => e = .returned (.string ⟨#[116, 111, 111, 32, 108, 111, 110, 103, 10]⟩) ∧ Below w1.heap.size w1 w' from hrt)
    clear hE hrt HRT
    go_wp2_with fail
    go_at_call 8
    refine (HRX.out).mono ?_
    rintro e w2 ⟨rfl, hb2⟩
    go_wp2_with fail
    go_ret
    exact ⟨rfl, below_trans hb1 hb2⟩
  have h3i : ¬ (3000 : Int) < t.size := by omega
  have hlen : l.length ≤ 3000 := by rw [HLL.out]; omega
  obtain ⟨hc, hla⟩ := lines_all hlen
  have hca := cnt_all l
  rw [← hc] at hca
  have hsl := sessE_len l
  have HRX := Lib.hid (HRT.out w1 hb1)
  obtain ⟨xl, hxl⟩ : ∃ xl, xl = sessE l := ⟨_, rfl⟩
  rw [← hxl] at HRX hca hla hsl
  obtain ⟨X, hX⟩ : ∃ X, X = ba xl := ⟨_, rfl⟩
  have hXl : X.data.toList = xl := by rw [hX, ba_toList]
  have hXs : xl.length = X.size := by rw [← hXl, size_list]
  rw [← hX] at HRX
  have HXL := Lib.hid hXl
  have HXS := Lib.hid hXs
  have HCA := Lib.hid hca
  have HLA := Lib.hid hla
  have hXs2 : X.size ≤ 40000 := by omega
  clear hc hla hca hsl hX hXl hXs hxl HRT hlen
  go_wp2_with fail
  go_at_call 8
  refine (HRX.out).mono ?_
  rintro e w2 ⟨rfl, hb2⟩
  have hb12 := below_trans hb1 hb2
  go_wp2_with fail
  go_loopg [5, 6] (t.size + 1) (fun g cv iv wr => ∃ k : Nat, k ≤ t.size ∧ t.size - k < g ∧ cv = .int .i64 (cntL l k : Nat) ∧ iv = .int .i64 k ∧ wr = w2)
  case atStart => exact ⟨0, by omega, by omega, by unfold cntL; by_cases h : 0 = l.length ∧ l ≠ [] ∧ l.getLast? ≠ some 10; exact absurd (List.eq_nil_of_length_eq_zero h.1.symm) h.2.1; rw [if_neg h]; rfl, rfl, rfl⟩
  case round =>
    obtain ⟨k, hk, hgk, rfl, rfl, rfl⟩ := hrel
    by_cases hlt : k < t.size
    · have hki : (k : Int) < t.size := by omega
      have hk0 : (0 : Int) ≤ k := by omega
      have hst := cnt_step l (k := k) (by rw [HLL.out]; exact hlt)
      have hcl := cnt_le l (k := k) (by rw [HLL.out]; omega)
      have hbk := byte_get t l HL.out hlt
      rw [← hbk, HLL.out] at hst
      have bb := @byte_beq (t[k]'hlt) 10
      rw [show ((10 : UInt8).toNat : Int) = 10 from rfl] at bb
      rcases bb with ⟨b1, b2, b3⟩ | ⟨b1, b2, b3⟩
      · rw [if_pos (Or.inl b3)] at hst
        have HST := Lib.hid hst
        clear hst hbk b3
        generalize cntL l k = ck at *
        go_wp2_with fail
        go_roundg (t.size - k)
        case measure => omega
        case rel => exact ⟨k + 1, by omega, by omega, by rw [HST.out]; go_num, by go_num, rfl⟩
      · by_cases hke : k + 1 = t.size
        · rw [if_pos (Or.inr hke)] at hst
          have HST := Lib.hid hst
          have hkb : ((k : Int) == (t.size : Int) - 1) = true := by rw [beq_iff_eq]; omega
          clear hst hbk b3
          generalize cntL l k = ck at *
          go_wp2_with fail
          go_roundg (t.size - k)
          case measure => omega
          case rel => exact ⟨k + 1, by omega, by omega, by rw [HST.out]; go_num, by go_num, rfl⟩
        · rw [if_neg (fun e => by rcases e with e | e; exact b3 e; exact hke e)] at hst
          have HST := Lib.hid hst
          have hkb : ((k : Int) == (t.size : Int) - 1) = false := by rw [beq_eq_false_iff_ne]; omega
          clear hst hbk b3
          generalize cntL l k = ck at *
          go_wp2_with fail
          go_roundg (t.size - k)
          case measure => omega
          case rel => exact ⟨k + 1, by omega, by omega, by rw [HST.out]; try rfl, by go_num, rfl⟩
    · obtain rfl : k = t.size := by omega
      have hkl : cntL l t.size = xl.count 10 := by rw [← HLL.out]; exact HCA.out
      rw [hkl]
      obtain ⟨w2, rfl⟩ : ∃ w2 : World, w2 = wr := ⟨_, rfl⟩
      clear hkl
      have hcx := List.count_le_length (a := (10 : UInt8)) (l := xl)
      rw [HXS.out] at hcx
      go_wp2_with fail
      go_loopg [7, 8] (X.size + 1) (fun g cv iv wr => ∃ k : Nat, k ≤ X.size ∧ X.size - k < g ∧ cv = .int .i64 ((xl.take k).count 10 : Nat) ∧ iv = .int .i64 k ∧ wr = w2)
      case atStart => exact ⟨0, by omega, by omega, rfl, rfl, rfl⟩
      case round =>
        obtain ⟨j, hj, hgj, rfl, rfl, rfl⟩ := hrel
        by_cases hjl : j < X.size
        · have hji : (j : Int) < X.size := by omega
          have hj0 : (0 : Int) ≤ j := by omega
          have hst := cnt_take xl (k := j) (by rw [HXS.out]; exact hjl)
          have hcl : (xl.take j).count 10 ≤ j := Nat.le_trans List.count_le_length (List.length_take_le _ _)
          have hbk := byte_get X xl HXL.out.symm hjl
          rw [← hbk] at hst
          have bb := @byte_beq (X[j]'hjl) 10
          rw [show ((10 : UInt8).toNat : Int) = 10 from rfl] at bb
          rcases bb with ⟨b1, b2, b3⟩ | ⟨b1, b2, b3⟩
          · rw [if_pos b3] at hst
            have HST := Lib.hid hst
            clear hst hbk b3
            generalize (xl.take j).count 10 = cj at *
            go_wp2_with fail
            go_roundg (X.size - j)
            case measure => omega
            case rel => exact ⟨j + 1, by omega, by omega, by rw [HST.out]; go_num, by go_num, rfl⟩
          · rw [if_neg b3] at hst
            have HST := Lib.hid hst
            clear hst hbk b3
            generalize (xl.take j).count 10 = cj at *
            go_wp2_with fail
            go_roundg (X.size - j)
            case measure => omega
            case rel => exact ⟨j + 1, by omega, by omega, by rw [HST.out]; try rfl, by go_num, rfl⟩
        · obtain rfl : j = X.size := by omega
          rw [show xl.take X.size = xl from List.take_of_length_le (by rw [HXS.out]; exact Nat.le_refl _)]
          generalize xl.count 10 = cx at *
          by_cases hx0 : X.size = 0
          · have hxb : ((X.size : Int) == 0) = true := by simp [hx0]
            go_wp2_with fail
            go_ret
            exact ⟨rfl, hb12⟩
          · obtain ⟨m, hm⟩ : ∃ m, X.size = m + 1 := ⟨X.size - 1, by omega⟩
            have hmx : m < X.size := by omega
            have hmb : X[m]'hmx = 10 := by
              rw [byte_get X xl HXL.out.symm hmx]
              rcases HLA.out with h | h
              · exfalso; have := HXS.out; rw [h] at this; simp at this; omega
              · rw [List.getLast?_eq_getElem?, HXS.out, hm, Nat.add_sub_cancel] at h
                rw [List.getD_eq_getElem?_getD, h]
                rfl
            have hmb2 : (((X[m]'hmx).toNat : Int) == 10) = true := by rw [hmb]; rfl
            have hxb : (((m : Int) + 1) == 0) = false := by rw [beq_eq_false_iff_ne]; omega
            have hm0 : (0 : Int) ≤ m := by omega
            clear hx0 hmb
            go_wp2_with fail
            go_ret
            exact ⟨rfl, hb12⟩
theorem frame_own : ownKnob Tryz.prog.godebug = none := by kernel_rfl
theorem frame_laid : laidOutB Tryz.prog = true := by kernel_rfl
theorem frame_pg : Tryz.prog.globalNamed "internal/strconv.uint64pow10" = some 6 := by kernel_rfl
theorem frame_pt : (Tryz.prog.globals[6]?).map (·.type) = some 175 := by kernel_rfl
theorem frame_pd {H : Type} : (Rows.laid_internal_strconv_uint64pow10 : DataW H) = Lib.tabData .u64 Lib.pow10Tab := by rfl
theorem tab_of_laid {W : World} (h : laidMetH Tryz.prog Rows.deskLinesRow.laid W) : Tab W.heap.size W := by
  have h' : laidMet Tryz.prog (Rows.deskLinesRow.laid.filter fun x => x.2.handleName?.isNone) W := (laidMetH_iff.1 h).1
  have hr : Lib.VarReads Tryz.prog W "internal/strconv.uint64pow10" Rows.laid_internal_strconv_uint64pow10 := Lib.laidMet.reads h' (List.mem_filter.2 ⟨by simp [Rows.deskLinesRow], by kernel_rfl⟩)
  rw [frame_pd] at hr
  exact Lib.tabBelow_of_tabIs (tabIs_of_reads frame_pg frame_pt Tryz.underlying175 Tryz.underlying157 (by kernel_rfl) (by kernel_rfl) hr)
theorem glob_of_laid {W : World} (h : laidMetH Tryz.prog Rows.deskLinesRow.laid W) (hS : W.ShapedOpen Tryz.prog) : Glob W.heap.size W := by
  have h' : laidMet Tryz.prog (Rows.deskLinesRow.laid.filter fun x => x.2.handleName?.isNone) W := (laidMetH_iff.1 h).1
  have hr : Lib.VarReads Tryz.prog W "strconv.ErrRange" Rows.laid_strconv_ErrRange := Lib.laidMet.reads h' (List.mem_filter.2 ⟨by simp [Rows.deskLinesRow], by kernel_rfl⟩)
  exact glob_of (tab_of_laid h) (iface_of_reads (g := 5) (by kernel_rfl) (by kernel_rfl) Tryz.underlying42 hr) hS
theorem frame_et : Tryz.prog.globalNamed "errors.errorType" = some 0 := by kernel_rfl
theorem frame_rt : (Tryz.prog.cutTypes.find? (·.1 == "internal/reflectlite.rtype")).map (·.2) = some 133 := by kernel_rfl
theorem frame_oneRow : ((List.range 209).filter fun t => Tryz.prog.rowNamed t [101, 114, 114, 111, 114]) = [42] := by kernel_rfl
theorem frame_size : Tryz.prog.types.size = 209 := by kernel_rfl
theorem handle_of_laid {W : World} (h : laidMetH Tryz.prog Rows.deskLinesRow.laid W) : Handle W := by
  have h2 : ∃ name u ty, (Rows.laid_errors_errorType : DataW Unit).handleName? = some name ∧ (Tryz.prog.cutTypes.find? (·.1 == "internal/reflectlite.rtype")).map (·.2) = some u ∧ ty < Tryz.prog.types.size ∧ Tryz.prog.rowNamed ty name = true ∧ W.var? Tryz.prog "errors.errorType" = some #[.iface u (.agg #[typeHandle Tryz.prog ty])] := (laidMetH_iff.1 h).2 ("errors.errorType", Rows.laid_errors_errorType) (List.mem_filter.2 ⟨by simp [Rows.deskLinesRow], by kernel_rfl⟩)
  obtain ⟨name, u, ty, e1, e2, e3, e4, e5⟩ := h2
  have en : name = [101, 114, 114, 111, 114] := (Option.some.inj e1).symm
  subst en
  obtain rfl := Option.some.inj (frame_rt.symm.trans e2)
  have hm : ty ∈ (List.range 209).filter fun t => Tryz.prog.rowNamed t [101, 114, 114, 111, 114] := List.mem_filter.2 ⟨List.mem_range.2 (by rw [← frame_size]; exact e3), e4⟩
  rw [frame_oneRow] at hm
  obtain rfl := List.mem_singleton.1 hm
  have hh : typeHandle Tryz.prog 42 = .pointer (some ⟨9, 42, none⟩) := by kernel_rfl
  rw [hh] at e5
  unfold Handle
  simpa using World.var?_cell frame_et e5 0
noncomputable def laidWorld (os : Os) : World := (World.doorLaid Tryz.prog 400 os).layVars Tryz.prog (Rows.deskLinesRow.laid.filter fun x => x.2.handleName?.isNone)
theorem laidWorld_os (os : Os) : (laidWorld os).os = os := World.layVars_os _ _ _
theorem laidWorld_met (os : Os) (args : Array Value) : laidMetH Tryz.prog Rows.deskLinesRow.laid ((laidWorld os).forCall (fun _ _ => 0) ⟨#[], args, []⟩).memory :=
  laidMetH_of_parts (laidMet.of_heap (by simp [laidWorld, World.memory, World.forCall, Input.heap]) (laidMet_over (w0 := (World.doorLaid Tryz.prog 400 os)) (by kernel_rfl) (by kernel_rfl))) (by kernel_rfl)
set_option maxRecDepth 100000 in
theorem frame_lifted (os : Os) (started : os.Started) (H : Type) (enc : TypeId × Value → H) :
    ReturnsInHanded {} Tryz.checked os 5 .any (fun w args => (Rows.deskLinesSpec.pre enc Tryz.prog Tryz.f5 Rows.deskLinesRow.domain false w args ∧ laidMetH Tryz.prog Rows.deskLinesRow.laid w) ∧ sizedMet enc Tryz.prog Tryz.f5 (OpenSpec.ofChange Rows.deskLinesSpec) false w args) (Rows.deskLinesSpec.post enc Tryz.prog Tryz.f5 false true false false) := by
  refine returns_and_shaped (C := Tryz.checked) (X := (fun w _ => laidMetH Tryz.prog Rows.deskLinesRow.laid w)) (fun _ _ _ hh h => h.of_heap hh) frame_own started (by kernel_rfl) Tryz.func5
    (ChangeSpec.witness_shaped (enc := enc) (C := Tryz.checked) (os := os) (X := (fun w _ => laidMetH Tryz.prog Rows.deskLinesRow.laid w)) false (laidWorld os) #[.string ⟨#[]⟩] 8 (laidWorld_os os) (World.shaped_of_ZipB (by kernel_rfl) (by kernel_rfl)) (by kernel_rfl) (by kernel_rfl) (by kernel_rfl) (laidWorld_met os _)) ?_
  intro W base args ds gs before hval0 hW hcnd _ hLaid hSh _
  have hval : ∀ (j : Nat) t v, Tryz.f5.params[j]? = some t → args[j]? = some v → Value.okWide Tryz.prog W .any base t v := hval0
  have hW' := hW
  obtain ⟨p, q, hA0, hV, rfl, hfz, hnd⟩ := hW
  have hA : DataW.TrodAll enc Tryz.prog W 0 (fun _ => true) true Tryz.f5.params.toList args.toList ds p := hA0
  rw [Tryz.params5] at hA hval
  obtain ⟨v0, vs0, d0, ds0, p0, q0, hargs, rfl, rfl, h0, r0⟩ := trodAll_cons hA
  obtain ⟨rfl, rfl, rfl⟩ := trodAll_nil r0
  obtain rfl : args = #[v0] := by cases args; simp_all
  obtain ⟨rfl, rfl⟩ := trodVars_none hV
  have k0 := h0
  have lt0 : ∀ x ∈ p0, x.block < W.heap.size := by obtain ⟨m, hm⟩ := k0; exact DataW.trod_lt m _ _ _ hm
  obtain ⟨a0, rfl, rfl, rfl, w0⟩ := open_string Tryz.underlying9 (hval 0 9 v0 rfl rfl) h0
  clear hA0 hval0
  refine (DeskLines_any a0 w0 W (glob_of_laid hLaid hSh) (handle_of_laid hLaid)).mono fun e W' ⟨he, bel⟩ => ?_
  subst he
  exact ⟨_, rfl, _, _, _, [], _, [], hW', trodAll_mk1 (shut_bool Tryz.underlying4 _), (trodAll_cons_mk (Below.trod frame_laid (by kernel_rfl) (of_decide_eq_true (by kernel_rfl)) k0 bel lt0) trodAll_mk0), rfl, bel.frame _, fun h => by cases h⟩

theorem DeskLines_over : Rows.deskLinesRow.holds Tryz.pinned (OpenSpec.ofChange Rows.deskLinesSpec) :=
  OpenClaim.holds_of_wide 5 Tryz.f5 rfl rfl rfl rfl rfl rfl rfl ⟨rfl, rfl, rfl, rfl, rfl⟩ rfl rfl rfl rfl rfl (by kernel_rfl) Tryz.func5 (by kernel_rfl)
    (of_decide_eq_true (by kernel_rfl)) (by unfold Func.isWrapper; first | (rw [if_pos (by decide +kernel)]; kernel_rfl) | (rw [if_neg (by decide +kernel)]; exact ⟨rfl, rfl⟩))
    (fun os started H enc _ => frame_lifted os started H enc)

theorem frame_wants : ∀ t ∈ [9], Tryz.prog.wantsStandIn t = false := by
  intro t ht
  simp only [List.mem_cons, List.not_mem_nil, or_false] at ht
  subst ht; kernel_rfl
/-- THE STATEMENT: THE TIED CARD -/
theorem DeskLines_holds : Rows.DeskLinesCardSaid :=
  Claim7.holds_tied_plain_at .later [] [.data, .data, .data, .data, .handle, .sentinel, .sentinel, .pinned] true _ true
    DeskLines_over (fun _ h => by cases h) (by kernel_rfl) (fun _ h => by cases h) deskLines_row_tie rfl ⟨rfl, rfl⟩ (by kernel_rfl) rfl
    (fun f fn hf hfn => by
      obtain rfl : f = 5 := Option.some.inj ((show Tryz.prog.funcNamed "rankmere/rankmerelaw4.DeskLines" = some 5 by kernel_rfl).symm.trans hf) |>.symm
      obtain rfl : fn = Tryz.f5 := (Option.some.inj (Tryz.func5.symm.trans hfn)).symm
      exact ⟨by kernel_rfl, fun j t ht => by
        rw [Tryz.params5] at ht
        exact frame_wants t (by have := Array.mem_of_getElem? ht; simpa using this)⟩)
    (by kernel_rfl)
end Go.Proofs.YtokneabcgmjhdaaGreatDoor.DeskLinesP
