/- It proves that rankmerelaw4.PathsPascal, called with any two integers, returns true. There are no conditions. -/
import Derived.Test.YtbafpiepadhmdaaPathFact
import Derived.Test.YtbafpiepadhmdaaLawIn
import Derived.Test.YtbafpiepadhmdaaOpen
import Derived.ProofKit
import Derived.OpenShut
import Derived.ShutString
import Derived.ChangeOld
import Derived.Lib.SmallJoins
namespace Go.Proofs.Ytbafpiepadhmdaa.PathsPascalP
open Go.ChangeShapes Go.WideShapes Go.ChangeAt Go.RowKit Go.Joins
open Go.ChangeMaps (open_string shut_string)
set_option linter.unusedVariables false
set_option linter.unusedSimpArgs false

def okP (r u : Nat) : Bool := (!(decide (r = 0) || decide (u = 0)) || decide (waysZ r (u : Int) = 1)) && (decide (r = 0) || decide (u = 0) || decide (waysZ r (u : Int) = waysZ (r - 1) (u : Int) + waysZ r ((u - 1 : Nat) : Int))) && (decide (4 < u) || decide (waysZ u (r : Int) = waysZ r (u : Int))) && decide (0 ≤ waysZ r (u : Int)) && decide (waysZ r (u : Int) ≤ 210)
theorem allP : (al 5 fun r => al 7 fun u => okP r u) = true := by decide +kernel
theorem pas {r u : Nat} (hr : r < 5) (hu : u < 7) : (r = 0 ∨ u = 0 → waysZ r (u : Int) = 1) ∧ (r ≠ 0 → u ≠ 0 → waysZ r (u : Int) = waysZ (r - 1) (u : Int) + waysZ r ((u - 1 : Nat) : Int)) ∧ (u ≤ 4 → waysZ u (r : Int) = waysZ r (u : Int)) ∧ 0 ≤ waysZ r (u : Int) ∧ waysZ r (u : Int) ≤ 210 := by
  have h := al_spec (al_spec allP hr) hu
  simp only [okP, Bool.and_eq_true, Bool.or_eq_true, decide_eq_true_eq, Bool.not_eq_true', Bool.or_eq_false_iff, decide_eq_false_iff_not] at h
  obtain ⟨⟨⟨⟨h1, h2⟩, h3⟩, h4⟩, h5⟩ := h
  exact ⟨fun h => by rcases h1 with h1 | h1; exact absurd h (by omega); exact h1, fun h6 h7 => by rcases h2 with (h2 | h2) | h2 <;> first | omega | exact h2, fun h6 => by rcases h3 with h3 | h3; omega; exact h3, h4, h5⟩

set_option maxHeartbeats 1000000 in
theorem PathsPascal_any (right up : Int) (w : World) :
    Calls Try.prog 4 #[.int .i64 right, .int .i64 up] w fun e w' => e = .returned (.bool true) ∧ Below w.heap.size w w' := by
  by_cases he : waysE right up = 0
  · obtain ⟨h1, h2, h3, h4⟩ := waysE_good he
    obtain ⟨r, rfl⟩ := Int.eq_ofNat_of_zero_le h1
    obtain ⟨u, rfl⟩ := Int.eq_ofNat_of_zero_le h3
    obtain ⟨p1, p2, p3, p4, p5⟩ := pas (show r < 5 by omega) (show u < 7 by omega)
    have hA := fun w => Ways_any (r : Int) (u : Int) w
    have hv : waysV (r : Int) (u : Int) = waysZ r (u : Int) := by unfold waysV; rw [if_pos he, Int.toNat_natCast]
    rw [hv, he, errV_zero] at hA
    by_cases h0 : r = 0 ∨ u = 0
    · have hx := p1 h0
      rw [hx] at hA
      have hc : ((r : Int) == 0) = true ∨ ((r : Int) == 0) = false ∧ ((u : Int) == 0) = true := by
        by_cases hr : r = 0
        · left; simp [hr]
        · right; exact ⟨by simp [hr], by simp; omega⟩
      clear p1 p2 p3 p4 p5 hv he hx h0
      rcases hc with hc | ⟨hc, hc'⟩
      all_goals
        go_enter Try.func4, Try.ntmps4
        go_wp2_with fail
        go_at_call 6
        refine (pathsFact_any _).mono ?_
        rintro e w1 ⟨rfl, hb⟩
        go_wp2_with fail
        go_at_call 8
        refine (hA _).mono ?_
        rintro e w2 ⟨rfl, hb2⟩
        go_wp2_with fail
        go_ret
        exact ⟨rfl, below_trans hb hb2⟩
    · obtain ⟨r', rfl⟩ : ∃ q, r = q + 1 := ⟨r - 1, by omega⟩
      obtain ⟨u', rfl⟩ : ∃ q, u = q + 1 := ⟨u - 1, by omega⟩
      have hx := p2 (by omega) (by omega)
      simp only [Nat.add_sub_cancel] at hx
      have hB := fun w => Ways_any (r' : Int) ((u' + 1 : Nat) : Int) w
      have hC := fun w => Ways_any ((r' + 1 : Nat) : Int) (u' : Int) w
      have hD := fun w => Ways_any ((u' + 1 : Nat) : Int) ((r' + 1 : Nat) : Int) w
      have e1 : waysE (r' : Int) ((u' + 1 : Nat) : Int) = 0 := waysE_iff (by omega) (by omega) (by omega) (by omega)
      have e2 : waysE ((r' + 1 : Nat) : Int) (u' : Int) = 0 := waysE_iff (by omega) (by omega) (by omega) (by omega)
      have v1 : waysV (r' : Int) ((u' + 1 : Nat) : Int) = waysZ r' ((u' + 1 : Nat) : Int) := by unfold waysV; rw [if_pos e1, Int.toNat_natCast]
      have v2 : waysV ((r' + 1 : Nat) : Int) (u' : Int) = waysZ (r' + 1) (u' : Int) := by unfold waysV; rw [if_pos e2, Int.toNat_natCast]
      rw [e1, v1, errV_zero] at hB
      rw [e2, v2, errV_zero] at hC
      obtain ⟨q1, q2, q3, q4, q5⟩ := pas (show r' < 5 by omega) (show u' + 1 < 7 by omega)
      obtain ⟨s1, s2, s3, s4, s5⟩ := pas (show r' + 1 < 5 by omega) (show u' < 7 by omega)
      obtain ⟨x, hxx⟩ : ∃ x, x = waysZ (r' + 1) ((u' + 1 : Nat) : Int) := ⟨_, rfl⟩
      obtain ⟨y, hyy⟩ : ∃ y, y = waysZ r' ((u' + 1 : Nat) : Int) := ⟨_, rfl⟩
      obtain ⟨z, hzz⟩ : ∃ z, z = waysZ (r' + 1) (u' : Int) := ⟨_, rfl⟩
      rw [← hxx, ← hyy, ← hzz] at hx
      rw [← hxx] at hA p4 p5 p3
      rw [← hyy] at hB q4 q5
      rw [← hzz] at hC s4 s5
      have hc1 : (((r' + 1 : Nat) : Int) == 0) = false := by simp; omega
      have hc2 : (((u' + 1 : Nat) : Int) == 0) = false := by simp; omega
      have hs1 : ((r' + 1 : Nat) : Int) - 1 = r' := by omega
      have hs2 : ((u' + 1 : Nat) : Int) - 1 = u' := by omega
      have hne : (x != y + z) = false := by simp [hx]
      have hww : IntKind.i64.wrap (y + z) = y + z := IntWalk.i64_in _ (by omega)
      have hi1 : IntKind.i64.wrap ((r' : Nat) : Int) = r' := IntWalk.i64_in _ (by omega)
      have hi2 : IntKind.i64.wrap ((u' : Nat) : Int) = u' := IntWalk.i64_in _ (by omega)
      obtain ⟨R, hR⟩ : ∃ R, R = ((r' + 1 : Nat) : Int) := ⟨_, rfl⟩
      obtain ⟨U, hU⟩ : ∃ U, U = ((u' + 1 : Nat) : Int) := ⟨_, rfl⟩
      rw [← hR] at hA hC hD hc1 hs1 h1 h2 ⊢
      rw [← hU] at hA hB hD hc2 hs2 h3 h4 ⊢
      by_cases hu4 : u' + 1 ≤ 4
      · have e3 : waysE U R = 0 := waysE_iff (by omega) (by omega) (by omega) (by omega)
        have v3 : waysV U R = x := by unfold waysV; rw [if_pos e3, hU, hR, Int.toNat_natCast]; exact p3 hu4
        rw [e3, v3, errV_zero] at hD
        clear hxx hyy hzz hx hR hU e1 e2 v1 v2 e3 v3 p1 p2 p3 q1 q2 q3 s1 s2 s3 hv he h0 hu4
        go_enter Try.func4, Try.ntmps4
        go_wp2_with fail
        go_at_call 6
        refine (pathsFact_any _).mono ?_
        rintro e w1 ⟨rfl, hb⟩
        go_wp2_with fail
        go_at_call 8
        refine (hA _).mono ?_
        rintro e w2 ⟨rfl, hb2⟩
        go_wp2_with fail
        go_at_call 8
        refine (hB _).mono ?_
        rintro e w3 ⟨rfl, hb3⟩
        go_wp2_with fail
        go_at_call 8
        refine (hC _).mono ?_
        rintro e w4 ⟨rfl, hb4⟩
        go_wp2_with fail
        go_at_call 8
        refine (hD _).mono ?_
        rintro e w5 ⟨rfl, hb5⟩
        go_wp2_with fail
        go_ret
        exact ⟨rfl, below_trans (below_trans (below_trans (below_trans hb hb2) hb3) hb4) hb5⟩
      · have e3 : waysE U R = 1 := waysE_bad (by omega)
        rw [e3, errV_pos (by decide)] at hD
        have hu5 : 4 < U := by omega
        clear hxx hyy hzz hx hR hU e1 e2 v1 v2 e3 p1 p2 p3 q1 q2 q3 s1 s2 s3 hv he h0 hu4
        go_enter Try.func4, Try.ntmps4
        go_wp2_with fail
        go_at_call 6
        refine (pathsFact_any _).mono ?_
        rintro e w1 ⟨rfl, hb⟩
        go_wp2_with fail
        go_at_call 8
        refine (hA _).mono ?_
        rintro e w2 ⟨rfl, hb2⟩
        go_wp2_with fail
        go_at_call 8
        refine (hB _).mono ?_
        rintro e w3 ⟨rfl, hb3⟩
        go_wp2_with fail
        go_at_call 8
        refine (hC _).mono ?_
        rintro e w4 ⟨rfl, hb4⟩
        go_wp2_with fail
        go_at_call 8
        refine (hD _).mono ?_
        rintro e w5 ⟨rfl, hb5⟩
        go_wp2_with fail
        go_ret
        exact ⟨rfl, below_trans (below_trans (below_trans (below_trans hb hb2) hb3) hb4) hb5⟩
  · have hA := fun w => Ways_any right up w
    have hv : waysV right up = 0 := by unfold waysV; rw [if_neg he]
    rw [hv, errV_pos he] at hA
    generalize waysE right up = e at *
    clear hv he
    go_enter Try.func4, Try.ntmps4
    go_wp2_with fail
    go_at_call 6
    refine (pathsFact_any _).mono ?_
    rintro e w1 ⟨rfl, hb⟩
    go_wp2_with fail
    go_at_call 8
    refine (hA _).mono ?_
    rintro e w2 ⟨rfl, hb2⟩
    go_wp2_with fail
    go_ret
    exact ⟨rfl, below_trans hb hb2⟩
theorem frame_own : ownKnob Try.prog.godebug = none := by kernel_rfl
theorem frame_laid : laidOutB Try.prog = true := by kernel_rfl
set_option maxRecDepth 100000 in
theorem frame_lifted (os : Os) (started : os.Started) (H : Type) (enc : TypeId × Value → H) :
    ReturnsInHanded {} Try.checked os 4 .any (Rows.pathsPascalSpec.pre6 enc Try.prog Try.f4 Rows.pathsPascalRow.domain false) (Rows.pathsPascalSpec.post enc Try.prog Try.f4 false true false false) := by
  refine returnsInHanded_of_change (C := Try.checked) frame_own started (by kernel_rfl) Try.func4
    (ChangeSpec.witness6 (enc := enc) (C := Try.checked) false ⟨#[], #[.int .i64 0, .int .i64 0], []⟩ 8 (by kernel_rfl) (by kernel_rfl) (by kernel_rfl) (by kernel_rfl)) ?_
  intro W base args ds gs before hval0 hW hcnd _
  have hval : ∀ (j : Nat) t v, Try.f4.params[j]? = some t → args[j]? = some v → Value.okWide Try.prog W .any base t v := hval0
  have hW' := hW
  obtain ⟨p, q, hA0, hV, rfl, hfz, hnd⟩ := hW
  have hA : DataW.TrodAll enc Try.prog W 0 (fun _ => true) true Try.f4.params.toList args.toList ds p := hA0
  rw [Try.params4] at hA hval
  obtain ⟨v0, vs0, d0, ds0, p0, q0, hargs, rfl, rfl, h0, r0⟩ := trodAll_cons hA
  obtain ⟨v1, vs1, d1, ds1, p1, q1, rfl, rfl, rfl, h1, r1⟩ := trodAll_cons r0
  obtain ⟨rfl, rfl, rfl⟩ := trodAll_nil r1
  obtain rfl : args = #[v0, v1] := by cases args; simp_all
  obtain ⟨rfl, rfl⟩ := trodVars_none hV
  have k0 := h0
  have lt0 : ∀ x ∈ p0, x.block < W.heap.size := by obtain ⟨m, hm⟩ := k0; exact DataW.trod_lt m _ _ _ hm
  obtain ⟨a0, rfl, rfl, rfl, w0⟩ := open_int Try.underlying3 (hval 0 3 v0 rfl rfl) h0
  have k1 := h1
  have lt1 : ∀ x ∈ p1, x.block < W.heap.size := by obtain ⟨m, hm⟩ := k1; exact DataW.trod_lt m _ _ _ hm
  obtain ⟨a1, rfl, rfl, rfl, w1⟩ := open_int Try.underlying3 (hval 1 3 v1 rfl rfl) h1
  clear hA0 hval0
  refine (PathsPascal_any a0 a1 W).mono fun e W' ⟨he, bel⟩ => ?_
  subst he
  exact ⟨_, rfl, _, _, _, [], _, [], hW', trodAll_mk1 (shut_bool Try.underlying4 _), (trodAll_cons_mk (Below.trod frame_laid (by kernel_rfl) (of_decide_eq_true (by kernel_rfl)) k0 bel lt0) (trodAll_cons_mk (Below.trod frame_laid (by kernel_rfl) (of_decide_eq_true (by kernel_rfl)) k1 bel lt1) trodAll_mk0)), rfl, bel.frame _, fun h => by cases h⟩

theorem PathsPascal_over : Rows.pathsPascalRow.holds Try.pinned (OpenSpec.ofChange Rows.pathsPascalSpec) :=
  OpenClaim.holds_of_wide 4 Try.f4 rfl rfl rfl rfl rfl rfl rfl ⟨rfl, rfl, rfl, rfl, rfl⟩ rfl rfl rfl rfl rfl (by kernel_rfl) Try.func4 (by kernel_rfl)
    (of_decide_eq_true (by kernel_rfl)) (by unfold Func.isWrapper; first | (rw [if_pos (by decide +kernel)]; kernel_rfl) | (rw [if_neg (by decide +kernel)]; exact ⟨rfl, rfl⟩))
    (fun os started H enc _ => frame_lifted os started H enc)

/-- THE STATEMENT -/
theorem PathsPascal_holds : Rows.PathsPascalSaid := PathsPascal_over
end Go.Proofs.Ytbafpiepadhmdaa.PathsPascalP
