/- It proves that rankmerelaw4.PfaffSquare, called with any list of lists of integers, returns true, and leaves its argument as it was. There are no conditions. -/
import Derived.Test.YtdpdopgngpamnaaPfLaw
import Derived.Test.YtdpdopgngpamnaaPfSq
import Derived.Test.YtdpdopgngpamnaaPfFact
import Derived.Test.YtdpdopgngpamnaaRDet
import Derived.Test.YtdpdopgngpamnaaBareFn
import Derived.Test.YtdpdopgngpamnaaLawIn
import Derived.Test.YtdpdopgngpamnaaOpen
import Derived.ProofKit
import Derived.OpenShut
import Derived.ShutString
import Derived.ChangeOld
import Derived.Lib.SmallJoins
namespace Go.Proofs.Ytdpdopgngpamnaa.PfaffSquareP
open Go.ChangeShapes Go.WideShapes Go.ChangeAt Go.RowKit Go.Joins
open Go.ChangeMaps (open_string shut_string)
open Go.Proofs.Ytdpdopgngpamnaa
set_option linter.unusedVariables false
set_option linter.unusedSimpArgs false

theorem det_sq {n : Nat} (hn : n ≤ 6) (M : Nat → Nat → Int) (h : Skew n M) : G (-1) n M = pfF n M * pfF n M := by
  by_cases ho : n % 2 = 1
  · rw [pf_odd n ho M h, pfF_odd n M ho]; rfl
  · have hc : n = 0 ∨ n = 2 ∨ n = 4 ∨ n = 6 := by omega
    rcases hc with rfl | rfl | rfl | rfl
    · rfl
    · exact pf_sq2 M h
    · exact pf_sq4 M h
    · exact pf_sq6 M h

theorem square_bad (a : Option Addr) (n cap : Nat) (rows : List (List Int)) (w : World) (hr : RowsAt w a n rows) (hcap : n ≤ cap) (hs : Small n rows) (he : skErr rows ≠ 0) :
    Calls Try.prog 5 #[.slice a n cap] w fun e w' => e = .returned (.bool true) ∧ Below w.heap.size w w' := by
  have hO := fun w (h : RowsAt w a n rows) => PfFn_any a n cap rows w h hcap hs
  have HR := Lib.hid hr
  have hv : pfV rows = 0 := by unfold pfV; rw [if_neg he]
  have hE : errV (skErr rows) = .iface 42 (.int .i64 (skErr rows)) := by unfold errV; rw [if_neg he]
  rw [hv, hE] at hO
  generalize skErr rows = e at *
  clear hr hs hE he hv
  go_enter Try.func5, Try.ntmps5
  go_wp2_with fail
  go_at_call 6
  refine (pfaffFact_any _).mono ?_
  rintro e w1 ⟨rfl, hb⟩
  go_wp2_with fail
  go_at_call 7
  refine (hO _ (HR.out.call hb)).mono ?_
  rintro e w2 ⟨rfl, hb2⟩
  go_wp2_with fail
  go_ret
  exact ⟨rfl, below_trans hb hb2⟩

set_option maxHeartbeats 1000000 in
theorem square_good (a : Option Addr) (n cap : Nat) (rows : List (List Int)) (w : World) (hr : RowsAt w a n rows) (hcap : n ≤ cap) (hs : Small n rows) (he : skErr rows = 0) :
    Calls Try.prog 5 #[.slice a n cap] w fun e w' => e = .returned (.bool true) ∧ Below w.heap.size w w' := by
  have hO := fun w (h : RowsAt w a n rows) => PfFn_any a n cap rows w h hcap hs
  have hl := hr.1
  have hself := pf_self he
  obtain ⟨h1, h2, h3, h4, h5⟩ := skErr_good he
  have hdet := det_sq h3 (fn rows) h5
  rw [hl] at h1 h3 h4 h5 hdet hself
  obtain ⟨hv1, hv2⟩ := pfV_bd rows
  rw [he, errV_zero] at hO
  have hvo : n % 2 = 1 → pfV rows = 0 := fun ho => by rw [hself, pfF_odd _ _ ho]
  obtain ⟨v, hv⟩ : ∃ v, v = pfV rows := ⟨_, rfl⟩
  rw [← hv] at hO hv1 hv2 hself hvo
  rw [← hself] at hdet
  have hvv := bd_mul (B := 10935) (C := 10935) hv1 hv2 hv1 hv2
  obtain ⟨hvv1, hvv2⟩ := hvv
  have hD := fun w (h : RowsAt w a n rows) => RDet_any n a cap rows w (by omega) hcap h1 h
  rw [detN_G, hdet, wrap_in (by omega) (by omega)] at hD
  have hin := inB_yes (n := v) (lo := -100000) (hi := 100000) (by omega) (by omega)
  have hn0 : (0 : Int) ≤ n := by omega
  have HR := Lib.hid hr
  have HDT := Lib.hid hdet
  have HS := Lib.hid h1
  have HN := Lib.hid h2
  have HL := Lib.hid hl
  have HSM := Lib.hid hs
  obtain ⟨z, hz⟩ : ∃ z, z = v * v := ⟨_, rfl⟩
  have hob : ((n : Int) % 2 == 1) = true ∧ (v != 0) = false ∨ ((n : Int) % 2 == 1) = false := by
    by_cases ho : n % 2 = 1
    · left; exact ⟨by simp; omega, by simp [hvo ho]⟩
    · right; simp; omega
  clear hr hs he hl h1 h2 h5 hv hvo hself hdet
  rcases hob with ⟨ho1, ho2⟩ | ho1
  all_goals
    go_enter Try.func5, Try.ntmps5
    go_wp2_with fail
    go_at_call 6
    refine (pfaffFact_any _).mono ?_
    rintro e w1 ⟨rfl, hb⟩
    go_wp2_with fail
    go_at_call 7
    refine (hO _ (HR.out.call hb)).mono ?_
    rintro e w2 ⟨rfl, hb2⟩
    have hB2 := below_trans hb hb2
    clear hb hb2
    go_wp2_with fail
    go_at_call 9
    refine (in_any _ _ _ _).mono ?_
    rintro e w3 ⟨rfl, rfl⟩
    go_wp2_with fail
    go_at_call 12
    refine (hD _ (HR.out.call hB2)).mono ?_
    rintro e w3 ⟨rfl, hb3⟩
    have hB3 := below_trans hB2 hb3
    clear hb3 hB2
    by_cases hn5 : n ≤ 5
    · have hsq := sqErr_of (most := 5) HS.out (by omega) (by omega) HN.out
      have hOb := fun w (h : RowsAt w a n rows) => BareFn_any a n cap rows w h hcap HSM.out
      have hbv : bareV rows = v * v := by unfold bareV; rw [if_pos hsq, HL.out, HDT.out]
      rw [hsq, hbv, errV_zero] at hOb
      have hn5' : (n : Int) ≤ 5 := by omega
      clear hsq hbv hn5
      go_wp2_with fail
      go_at_call 13
      refine (hOb _ (HR.out.call hB3)).mono ?_
      rintro e w4 ⟨rfl, hb4⟩
      go_wp2_with fail
      go_ret
      exact ⟨rfl, below_trans hB3 hb4⟩
    · have hn5' : (5 : Int) < n := by omega
      clear hn5
      go_wp2_with fail
      go_ret
      exact ⟨rfl, hB3⟩

theorem PfaffSquare_any (a : Option Addr) (n cap : Nat) (rows : List (List Int)) {w' : World} (hr : RowsAt w' a n rows) (hcap : n ≤ cap) (hs : Small n rows) (w : World) (e : w' = w) :
    Calls Try.prog 5 #[.slice a n cap] w fun e w' => e = .returned (.bool true) ∧ Below w.heap.size w w' := by
  subst e
  by_cases he : skErr rows = 0
  · exact square_good a n cap rows w' hr hcap hs he
  · exact square_bad a n cap rows w' hr hcap hs he
theorem frame_own : ownKnob Try.prog.godebug = none := by kernel_rfl
theorem frame_laid : laidOutB Try.prog = true := by kernel_rfl
set_option maxRecDepth 100000 in
theorem frame_lifted (os : Os) (started : os.Started) (H : Type) (enc : TypeId × Value → H) :
    ReturnsInHanded {} Try.checked os 5 .any (Rows.pfaffSquareSpec.pre6 enc Try.prog Try.f5 Rows.pfaffSquareRow.domain false) (Rows.pfaffSquareSpec.post enc Try.prog Try.f5 false true false false) := by
  refine returnsInHanded_of_change (C := Try.checked) frame_own started (by kernel_rfl) Try.func5
    (ChangeSpec.witness6 (enc := enc) (C := Try.checked) false ⟨#[], #[.slice none 0 0], []⟩ 8 (by kernel_rfl) (by kernel_rfl) (by kernel_rfl) (by kernel_rfl)) ?_
  intro W base args ds gs before hval0 hW hcnd _
  have hval : ∀ (j : Nat) t v, Try.f5.params[j]? = some t → args[j]? = some v → Value.okWide Try.prog W .any base t v := hval0
  have hW' := hW
  obtain ⟨p, q, hA0, hV, rfl, hfz, hnd⟩ := hW
  have hA : DataW.TrodAll enc Try.prog W 0 (fun _ => true) true Try.f5.params.toList args.toList ds p := hA0
  rw [Try.params5] at hA hval
  obtain ⟨v0, vs0, d0, ds0, p0, q0, hargs, rfl, rfl, h0, r0⟩ := trodAll_cons hA
  obtain ⟨rfl, rfl, rfl⟩ := trodAll_nil r0
  obtain rfl : args = #[v0] := by cases args; simp_all
  obtain ⟨rfl, rfl⟩ := trodVars_none hV
  have k0 := h0
  have lt0 : ∀ x ∈ p0, x.block < W.heap.size := by obtain ⟨m, hm⟩ := k0; exact DataW.trod_lt m _ _ _ hm
  obtain ⟨a0, len0, cap0, rfl⟩ := okWide_slice Try.underlying22 (hval 0 22 v0 rfl rfl)
  obtain ⟨xs0, hxs0, hcap0, hmax0⟩ := open_rowsAt Try.underlying22 Try.underlying30 Try.underlying3 (by kernel_rfl) (by kernel_rfl) h0
  clear hA0 hval0
  refine (PfaffSquare_any a0 len0 cap0 xs0 hxs0 hcap0 hmax0 W rfl).mono fun e W' ⟨he, bel⟩ => ?_
  subst he
  exact ⟨_, rfl, _, _, _, [], _, [], hW', trodAll_mk1 (shut_bool Try.underlying4 _), (trodAll_cons_mk (Below.trod frame_laid (by kernel_rfl) (of_decide_eq_true (by kernel_rfl)) k0 bel lt0) trodAll_mk0), rfl, bel.frame _, fun h => by cases h⟩

theorem PfaffSquare_over : Rows.pfaffSquareRow.holds Try.pinned (OpenSpec.ofChange Rows.pfaffSquareSpec) :=
  OpenClaim.holds_of_wide 5 Try.f5 rfl rfl rfl rfl rfl rfl rfl ⟨rfl, rfl, rfl, rfl, rfl⟩ rfl rfl rfl rfl rfl (by kernel_rfl) Try.func5 (by kernel_rfl)
    (of_decide_eq_true (by kernel_rfl)) (by unfold Func.isWrapper; first | (rw [if_pos (by decide +kernel)]; kernel_rfl) | (rw [if_neg (by decide +kernel)]; exact ⟨rfl, rfl⟩))
    (fun os started H enc _ => frame_lifted os started H enc)

/-- THE STATEMENT -/
theorem PfaffSquare_holds : Rows.PfaffSquareSaid := PfaffSquare_over
end Go.Proofs.Ytdpdopgngpamnaa.PfaffSquareP
