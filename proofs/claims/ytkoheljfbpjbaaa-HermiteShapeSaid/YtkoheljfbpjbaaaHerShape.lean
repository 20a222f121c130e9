/- It proves that rankmerelaw4.HermiteShape, called with any list of lists of integers, returns true, and leaves its argument as it was. There are no conditions. -/
import Derived.Test.YtkoheljfbpjbaaaHerFact
import Derived.Test.YtkoheljfbpjbaaaRDet
import Derived.Test.YtkoheljfbpjbaaaRAbs
import Derived.Test.YtkoheljfbpjbaaaLawIn
import Derived.Test.YtkoheljfbpjbaaaOpen
import Derived.ProofKit
import Derived.OpenShut
import Derived.ShutString
import Derived.ChangeOld
import Derived.Lib.SmallJoins
namespace Go.Proofs.Ytkoheljfbpjbaaa.HermiteShapeP
open Go.ChangeShapes Go.WideShapes Go.ChangeAt Go.RowKit Go.Joins
open Go.ChangeMaps (open_string shut_string)
set_option linter.unusedVariables false
set_option linter.unusedSimpArgs false

theorem shape_bad (a : Option Addr) (n cap : Nat) (rows : List (List Int)) (w : World) (hr : RowsAt w a n rows) (hcap : n ≤ cap) (hs : Small n rows) (he : herErr rows ≠ 0) :
    Calls Try.prog 3 #[.slice a n cap] w fun e w' => e = .returned (.bool true) ∧ Below w.heap.size w w' := by
  have hF := fun w (h : RowsAt w a n rows) => FormFn_bad a n cap rows w h hcap hs he
  rw [errV_pos he] at hF
  generalize herErr rows = e at *
  have HR := Lib.hid hr
  clear hr he hs
  go_enter Try.func3, Try.ntmps3
  go_wp2_with fail
  go_at_call 10
  refine (hermiteFact_any _).mono ?_
  rintro e w1 ⟨rfl, hb⟩
  go_wp2_with fail
  go_at_call 11
  refine (hF _ (HR.out.call hb)).mono ?_
  rintro e w2 ⟨rfl, hb2⟩
  go_wp2_with fail
  go_ret
  exact ⟨rfl, below_trans hb hb2⟩

set_option maxRecDepth 100000 in
set_option maxHeartbeats 2000000 in
theorem shape_good (a : Option Addr) (n cap : Nat) (rows : List (List Int)) (w : World) (hr : RowsAt w a n rows) (hcap : n ≤ cap) (hs : Small n rows) (he : herErr rows = 0) :
    Calls Try.prog 3 #[.slice a n cap] w fun e w' => e = .returned (.bool true) ∧ Below w.heap.size w w' := by
  have hk := herErr_good hr.1 he
  have hF := Lib.hid (fun w (h : RowsAt w a n rows) => FormFn_good a n cap rows w h hcap hs he)
  have hbd := hk.bd
  have hD := Lib.hid (fun w (h : RowsAt w a n rows) => RDet_any n a cap rows w (by have := hk.le; omega) hcap hk.sq h)
  rw [detN_G, wrap_in (by omega) (by omega)] at hD
  have HR := Lib.hid hr
  have HK := Lib.hid hk
  have hn1 := hk.pos
  have hn3 := hk.le
  clear hr hs he hk hbd
  go_enter Try.func3, Try.ntmps3
  go_wp2_with fail
  go_at_call 10
  refine (hermiteFact_any _).mono ?_
  rintro e w1 ⟨rfl, hb⟩
  go_wp2_with fail
  go_at_call 11
  refine (hF.out _ (HR.out.call hb)).mono ?_
  rintro e w2 ⟨⟨G', T, rfl, hT1, hT2, hT3⟩, hb2⟩
  have hB2 := below_trans hb hb2
  have HT1 := Lib.hid hT1
  have HT2 := Lib.hid hT2
  have HT3 := Lib.hid hT3
  have HBD := Lib.hid (form_bd HK.out hT3)
  have hdg := hT3.diag
  have hdd : ∀ k, k ≤ n → 0 < diagTo (fn T) k ∧ diagTo (fn T) k ≤ 48000 := fun k hk => by
    have h1 := diag_pos k (fun j hj => hT3.done.mid j (by omega))
    have h2 := diag_part hT3.done.mid (n - k) k (by omega)
    have h3 := HK.out.bd
    rw [hdg] at h2
    exact ⟨h1, by split at h2 <;> omega⟩
  have HDD := Lib.hid hdd
  have HDG := Lib.hid hdg
  clear hb hb2 hF hT1 hT2 hT3 hdg hdd
  go_wp2_with fail
  go_loopg [6, 7] (n + 1) (fun g s i wr => ∃ k : Nat, k ≤ n ∧ n - k < g ∧ s = .int .i64 (diagTo (fn T) k) ∧ i = .int .i64 k ∧ Below w2.heap.size w2 wr)
  case atStart => exact ⟨0, by omega, by omega, rfl, rfl, Below.refl _ _⟩
  case round =>
    obtain ⟨k, hk, hg, rfl, rfl, hbel⟩ := hrel
    have HTR := Lib.hid (HT1.out.call hbel)
    by_cases hlt : k < n
    · obtain ⟨gk, ok, rk, ck, cd, z2⟩ := HTR.out.at HT2.out hlt hlt
      rw [Nat.zero_add] at ck
      have hmid := HT3.out.done.mid k hlt
      have hbd := HBD.out k k hlt hlt
      obtain ⟨d1, d2⟩ := HDD.out k hk
      obtain ⟨d3, d4⟩ := HDD.out (k + 1) (by omega)
      obtain ⟨x, hx⟩ : ∃ x, x = fn T k k := ⟨_, rfl⟩
      rw [← hx] at cd
      obtain ⟨p, hp⟩ : ∃ p, p = diagTo (fn T) k := ⟨_, rfl⟩
      rw [diagTo] at d3 d4
      rw [← hx] at hmid hbd d3 d4
      rw [← hp] at d1 d2 d3 d4 ⊢
      have hin := inB_yes (n := x) (lo := 1) (hi := 100000) (by omega) (by omega)
      obtain ⟨q, hq⟩ : ∃ q, q = p * x := ⟨_, rfl⟩
      rw [← hq] at d3 d4
      have hwq : IntKind.i64.wrap (p * x) = q := by rw [← hq]; exact IntWalk.i64_in _ (by omega)
      have hwx : IntKind.i64.wrap (x - 1) = x - 1 := IntWalk.i64_in _ (by omega)
      have HX := Lib.hid hx
      have HQ := Lib.hid (show q = diagTo (fn T) (k + 1) by rw [hq, hp, hx]; rfl)
      have hk0 : (0 : Int) ≤ k := by omega
      have hk1 : (k : Int) < n := by omega
      have z1 := World.block_lt_of_cell? _ _ ck
      dsimp only at z1
      clear hx hp hq
      go_wp2_with fail
      go_at_call 12
      refine (in_any _ _ _ _).mono ?_
      rintro e w4 ⟨rfl, rfl⟩
      rw [hin]
      have hB3 := hbel
      go_wp2_with fail
      go_loopg [8] (n + 1) (fun g j wr => ∃ l : Nat, l ≤ k ∧ k - l < g ∧ j = .int .i64 l ∧ Below w2.heap.size w2 wr)
      case atStart => exact ⟨0, by omega, by omega, rfl, hB3⟩
      case round =>
        obtain ⟨l, hl, hgl, rfl, hbel⟩ := hrel
        clear HTR ck cd z1 z2 hB3
        have HTR := Lib.hid (HT1.out.call hbel)
        obtain ⟨gk, ok, rk, ck, cd, z2⟩ := HTR.out.at HT2.out hlt hlt
        rw [Nat.zero_add] at ck
        rw [← HX.out] at cd
        have z1 := World.block_lt_of_cell? _ _ ck
        dsimp only at z1
        by_cases hlk : l < k
        · have hln : l < n := by omega
          obtain ⟨gk', ok', rk', ck', ce, z3⟩ := HTR.out.at HT2.out hlt hln
          rw [Nat.zero_add] at ck'
          obtain ⟨rfl, rfl, rfl⟩ : gk = gk' ∧ ok = ok' ∧ rk = rk' := by have := ck.symm.trans ck'; simp at this; exact ⟨this.1.1, this.1.2, this.2⟩
          obtain ⟨gl, ol, rl, cl, cf, z4⟩ := HTR.out.at HT2.out hln hlt
          rw [Nat.zero_add] at cl
          rw [HT3.out.done.low k l (by omega) hlk hlt] at ce
          have hup := HT3.out.done.up l k hlk hlt
          obtain ⟨y, hy⟩ : ∃ y, y = fn T l k := ⟨_, rfl⟩
          rw [← hy] at cf hup
          rw [← HX.out] at hup
          have hin2 := inB_yes (n := y) (lo := 0) (hi := x - 1) (by omega) (by omega)
          have hl0 : (0 : Int) ≤ l := by omega
          have hl1 : (l : Int) < n := by omega
          have hl2 : (l : Int) < k := by omega
          have z5 := World.block_lt_of_cell? _ _ cl
          dsimp only at z5
          have hIN := Lib.hid (fun W => in_any y 0 (x - 1) W)
          rw [hin2] at hIN
          clear hy ck' hup hin2
          go_wp2_with fail
          refine wp_region_quiet (C := Cls wr.heap.size wr) (by kernel_rfl) (by kernel_rfl) Cls.start ?_
          repeat
            (refine wpQuiet_step (fun K hK => ?_)
             go_simp
             first
               | (refine hK _ ?_; clear hK K)
               | (apply Exists.intro
                  refine ⟨fun w' hC => ?_, hK _ ?_⟩
                  · (obtain ⟨hr, hr2⟩ := hC.rules
                     first
                       | (go_at_call 12; exact Cls.callSame hC (hIN.out _))
                       | (go_simp; done)
                       | (go_simp; rfl))
                  clear hK K))
          refine wpQuiet_nil ?_
          intro w3 hw3
          have hB4 := below_trans hbel hw3
          go_wp2_with fail
          go_roundg (k - l)
          case measure => omega
          case rel => exact ⟨l + 1, by omega, by omega, by go_num, hB4⟩
        · obtain rfl : l = k := by omega
          go_wp2_with fail
          go_roundg (n - l)
          case measure => omega
          case rel => exact ⟨l + 1, by omega, by omega, by rw [HQ.out], by go_num, hbel⟩
    · obtain rfl : k = n := by omega
      have hda := HDG.out
      have hkb := HK.out.bd
      obtain ⟨d, hd⟩ : ∃ d, d = G (-1) k (fn rows) := ⟨_, rfl⟩
      rw [← hd] at hda hkb hD
      have HDA := Lib.hid (show diagTo (fn T) k = absI d by rw [hda]; unfold absI; rfl)
      obtain ⟨b1, b2⟩ := hkb
      clear hd hda
      have hBB := below_trans hB2 hbel
      go_wp2_with fail
      go_at_call 14
      refine (hD.out _ (HR.out.call hBB)).mono ?_
      rintro e w5 ⟨rfl, hb5⟩
      go_wp2_with fail
      go_at_call 13
      refine (RAbs_any _ _ (by omega) (by omega)).mono ?_
      rintro e w6 ⟨rfl, rfl⟩
      rw [← HDA.out]
      go_wp2_with fail
      go_ret
      exact ⟨rfl, below_trans hBB hb5⟩

theorem HermiteShape_any (a : Option Addr) (n cap : Nat) (rows : List (List Int)) {w' : World} (hr : RowsAt w' a n rows) (hcap : n ≤ cap) (hs : Small n rows) (w : World) (e : w' = w) :
    Calls Try.prog 3 #[.slice a n cap] w fun e w' => e = .returned (.bool true) ∧ Below w.heap.size w w' := by
  subst e
  by_cases he : herErr rows = 0
  · exact shape_good a n cap rows w' hr hcap hs he
  · exact shape_bad a n cap rows w' hr hcap hs he
theorem frame_own : ownKnob Try.prog.godebug = none := by kernel_rfl
theorem frame_laid : laidOutB Try.prog = true := by kernel_rfl
set_option maxRecDepth 100000 in
theorem frame_lifted (os : Os) (started : os.Started) (H : Type) (enc : TypeId × Value → H) :
    ReturnsInHanded {} Try.checked os 3 .any (Rows.hermiteShapeSpec.pre6 enc Try.prog Try.f3 Rows.hermiteShapeRow.domain false) (Rows.hermiteShapeSpec.post enc Try.prog Try.f3 false true false false) := by
  refine returnsInHanded_of_change (C := Try.checked) frame_own started (by kernel_rfl) Try.func3
    (ChangeSpec.witness6 (enc := enc) (C := Try.checked) false ⟨#[], #[.slice none 0 0], []⟩ 8 (by kernel_rfl) (by kernel_rfl) (by kernel_rfl) (by kernel_rfl)) ?_
  intro W base args ds gs before hval0 hW hcnd _
  have hval : ∀ (j : Nat) t v, Try.f3.params[j]? = some t → args[j]? = some v → Value.okWide Try.prog W .any base t v := hval0
  have hW' := hW
  obtain ⟨p, q, hA0, hV, rfl, hfz, hnd⟩ := hW
  have hA : DataW.TrodAll enc Try.prog W 0 (fun _ => true) true Try.f3.params.toList args.toList ds p := hA0
  rw [Try.params3] at hA hval
  obtain ⟨v0, vs0, d0, ds0, p0, q0, hargs, rfl, rfl, h0, r0⟩ := trodAll_cons hA
  obtain ⟨rfl, rfl, rfl⟩ := trodAll_nil r0
  obtain rfl : args = #[v0] := by cases args; simp_all
  obtain ⟨rfl, rfl⟩ := trodVars_none hV
  have k0 := h0
  have lt0 : ∀ x ∈ p0, x.block < W.heap.size := by obtain ⟨m, hm⟩ := k0; exact DataW.trod_lt m _ _ _ hm
  obtain ⟨a0, len0, cap0, rfl⟩ := okWide_slice Try.underlying22 (hval 0 22 v0 rfl rfl)
  obtain ⟨xs0, hxs0, hcap0, hmax0⟩ := open_rowsAt Try.underlying22 Try.underlying28 Try.underlying3 (by kernel_rfl) (by kernel_rfl) h0
  clear hA0 hval0
  refine (HermiteShape_any a0 len0 cap0 xs0 hxs0 hcap0 hmax0 W rfl).mono fun e W' ⟨he, bel⟩ => ?_
  subst he
  exact ⟨_, rfl, _, _, _, [], _, [], hW', trodAll_mk1 (shut_bool Try.underlying4 _), (trodAll_cons_mk (Below.trod frame_laid (by kernel_rfl) (of_decide_eq_true (by kernel_rfl)) k0 bel lt0) trodAll_mk0), rfl, bel.frame _, fun h => by cases h⟩

theorem HermiteShape_over : Rows.hermiteShapeRow.holds Try.pinned (OpenSpec.ofChange Rows.hermiteShapeSpec) :=
  OpenClaim.holds_of_wide 3 Try.f3 rfl rfl rfl rfl rfl rfl rfl ⟨rfl, rfl, rfl, rfl, rfl⟩ rfl rfl rfl rfl rfl (by kernel_rfl) Try.func3 (by kernel_rfl)
    (of_decide_eq_true (by kernel_rfl)) (by unfold Func.isWrapper; first | (rw [if_pos (by decide +kernel)]; kernel_rfl) | (rw [if_neg (by decide +kernel)]; exact ⟨rfl, rfl⟩))
    (fun os started H enc _ => frame_lifted os started H enc)

/-- THE STATEMENT -/
theorem HermiteShape_holds : Rows.HermiteShapeSaid := HermiteShape_over
end Go.Proofs.Ytkoheljfbpjbaaa.HermiteShapeP
