/- It proves that rankmerelaw4.LatticeArea, called with any two vectors, returns true, and leaves its arguments as they were. There are no conditions. -/
import Derived.Test.YtghhccalfbgjjaaLat2
import Derived.ProofKit
import Derived.OpenShut
import Derived.ShutString
import Derived.ChangeOld
import Derived.Lib.SmallJoins
namespace Go.Proofs.Ytghhccalfbgjjaa.LatticeAreaP
open Go.ChangeShapes Go.WideShapes Go.ChangeAt Go.RowKit Go.Joins LatMath
open Go.ChangeMaps (open_string shut_string)
open Go.Proofs.Ytghhccalfbgjjaa
set_option linter.unusedVariables false
set_option linter.unusedSimpArgs false

theorem LatticeArea_wrong {a b c d : Int} (h : vecsErr a b c d ≠ 0) (w : World) :
    Calls Try.prog 4 #[vec a b, vec c d] w fun e w' => e = .returned (.bool true) ∧ Below w.heap.size w w' := by
  have hS := fun w => Short_wrong h w
  have hA := fun w => Area_wrong h w
  clear h
  generalize vecsErr a b c d = e at *
  go_enter Try.func4, Try.ntmps4
  go_wp2_with fail
  go_at_call 6
  refine (latticeFact_any _).mono ?_
  rintro e w1 ⟨rfl, hb⟩
  have hB := hb.mono (show w.heap.size + 2 ≤ _ from by simp)
  obtain ⟨hc, hf⟩ := rules hB
  clear hb
  go_wp2_with fail
  go_at_call 7
  refine (hS _).mono ?_
  rintro e w2 ⟨rfl, hb⟩
  have hB2 := step_below hB (by simp) hb
  clear hB hb hc hf hS
  obtain ⟨hc, hf⟩ := rules hB2
  go_wp2_with fail
  go_at_call 9
  refine (hA _).mono ?_
  rintro e w3 ⟨rfl, hb⟩
  have hB3 := step_below hB2 (by simp) hb
  clear hB2 hb hc hf hA
  go_wp2_with fail
  go_ret
  exact ⟨rfl, (((Below.refl _ _).alloc (Nat.le_refl _) _).alloc (by simp) _).trans (hB3.mono (by omega))⟩

theorem abs_sq (x : Int) : (x.natAbs : Int) * x.natAbs = x * x := Int.natAbs_mul_self

theorem red_bd {a b c d A C : Int} (h : RedOf a b c d A C) (ha : a * a + b * b ≤ 2000000) (hc : c * c + d * d ≤ 2000000) (h0 : a * d - b * c ≠ 0) : C ≤ 2000000 := by
  have hp := h.pos h0
  obtain ⟨x, y, z, t, h1, h2, h3, h4, h5, h6⟩ := h
  obtain ⟨α, β, γ, δ, hd, e1, e2, e3, e4⟩ := h1.symm
  have f1 : a * a + b * b = A * (α * α) + 2 * (x * z + y * t) * (α * β) + C * (β * β) := by rw [e1, e2, h2, h3]; exact sq_sum _ _ _ _ _ _
  have f2 : c * c + d * d = A * (γ * γ) + 2 * (x * z + y * t) * (γ * δ) + C * (δ * δ) := by rw [e3, e4, h2, h3]; exact sq_sum _ _ _ _ _ _
  by_cases hβ : β = 0
  · subst hβ
    have hδ : δ ≠ 0 := by rintro rfl; simp at hd
    have r2 := red_low (i := γ) hp h4 h5 h6 hδ
    omega
  · have r1 := red_low (i := α) hp h4 h5 h6 hβ
    omega

set_option maxHeartbeats 1000000 in
theorem LatticeArea_good {a b c d : Int} (h : vecsErr a b c d = 0) (w : World) :
    Calls Try.prog 4 #[vec a b, vec c d] w fun e w' => e = .returned (.bool true) ∧ Below w.heap.size w w' := by
  have hS := fun w => Short_good h w
  have hA := fun w => Area_good h w
  have h0 := Lib.hid (vecsErr_good h).2.2
  have hn : ∃ N : Int, N = (a * d - b * c).natAbs ∧ 1 ≤ N ∧ N ≤ 2000000 ∧ N * N = (a * d - b * c) * (a * d - b * c) := by
    obtain ⟨g1, g2, g3, g4⟩ := good_bd h
    have := mul_bd a d 1000 1000 g1.1 g1.2 g4.1 g4.2
    have := mul_bd b c 1000 1000 g2.1 g2.2 g3.1 g3.2
    have := (vecsErr_good h).2.2
    exact ⟨_, rfl, by omega, by omega, abs_sq _⟩
  obtain ⟨N, hN, hN1, hN2, hN3⟩ := hn
  rw [← hN] at hA
  have bd : ∀ A C, RedOf a b c d A C → 1 ≤ A ∧ A ≤ C ∧ C ≤ 2000000 ∧ N * N ≤ A * C ∧ 3 * (A * C) ≤ 4 * (N * N) := by
    intro A C hR
    obtain ⟨g1, g2, g3, g4⟩ := good_bd h
    have := sq_bd g1
    have := sq_bd g2
    have := sq_bd g3
    have := sq_bd g4
    have hC := red_bd hR (by omega) (by omega) h0.out
    have har := hR.area
    rw [← hN3] at har
    refine ⟨hR.pos h0.out, ?_, hC, har.1, har.2⟩
    obtain ⟨_, _, _, _, _, _, _, hx, _⟩ := hR
    exact hx
  have HBD := Lib.hid bd
  have HN3 := mul_bd N N 2000000 2000000 (by omega) (by omega) (by omega) (by omega)
  have hq := (sq_nn N)
  clear h bd hN hN3
  go_enter Try.func4, Try.ntmps4
  go_wp2_with fail
  go_at_call 6
  refine (latticeFact_any _).mono ?_
  rintro e w1 ⟨rfl, hb⟩
  have hB := hb.mono (show w.heap.size + 2 ≤ _ from by simp)
  obtain ⟨hc, hf⟩ := rules hB
  clear hb
  go_wp2_with fail
  go_at_call 7
  refine (hS _).mono ?_
  rintro e w2 ⟨⟨A, C, rfl, hR⟩, hb⟩
  have hB2 := step_below hB (by simp) hb
  clear hB hb hc hf hS
  obtain ⟨hc, hf⟩ := rules hB2
  go_wp2_with fail
  go_at_call 9
  refine (hA _).mono ?_
  rintro e w3 ⟨rfl, hb⟩
  have hB3 := step_below hB2 (by simp) hb
  clear hB2 hb hc hf hA
  obtain ⟨b1, b2, b3, b4, b5⟩ := HBD.out A C hR
  have i1 : inB A 1 2000000 = true := by simp [inB]; omega
  have i2 : inB C 1 2000000 = true := by simp [inB]; omega
  have i3 : inB N 1 2000000 = true := by simp [inB]; omega
  have e1 : 3 * A * C = 3 * (A * C) := Int.mul_assoc _ _ _
  have e2 : 4 * N * N = 4 * (N * N) := Int.mul_assoc _ _ _
  have b5' : 3 * A * C ≤ 4 * N * N := by omega
  have q1 := mul_bd A C 2000000 2000000 (by omega) (by omega) (by omega) (by omega)
  obtain ⟨q1, q2⟩ := q1
  obtain ⟨q3, q4⟩ := HN3
  have q5 : -4000000000000000 ≤ 3 * A * C ∧ 3 * A * C ≤ 4000000000000000 := by omega
  have q6 : -4000000000000000000 ≤ 4 * N * N ∧ 4 * N * N ≤ 4000000000000000000 := by omega
  obtain ⟨q5, q5'⟩ := q5
  obtain ⟨q6, q6'⟩ := q6
  clear e1 e2 hR b5 h0 HBD
  go_wp2_with (go_at_call 8; refine (in_any _ _ _ _).mono ?_; rintro e w' ⟨rfl, rfl⟩)
  go_ret
  exact ⟨rfl, (((Below.refl _ _).alloc (Nat.le_refl _) _).alloc (by simp) _).trans (hB3.mono (by omega))⟩

theorem LatticeArea_any (a b c d : Int) (w : World) :
    Calls Try.prog 4 #[vec a b, vec c d] w fun e w' => e = .returned (.bool true) ∧ Below w.heap.size w w' := by
  by_cases h : vecsErr a b c d = 0
  · exact LatticeArea_good h w
  · exact LatticeArea_wrong h w
theorem frame_own : ownKnob Try.prog.godebug = none := by kernel_rfl
theorem frame_laid : laidOutB Try.prog = true := by kernel_rfl
theorem frame_vec : Try.prog.cellsOf 23 = 2 := by kernel_rfl
set_option maxRecDepth 100000 in
theorem frame_lifted (os : Os) (started : os.Started) (H : Type) (enc : TypeId × Value → H) :
    ReturnsInHanded {} Try.checked os 4 .any (Rows.latticeAreaSpec.pre6 enc Try.prog Try.f4 Rows.latticeAreaRow.domain false) (Rows.latticeAreaSpec.post enc Try.prog Try.f4 false true false false) := by
  refine returnsInHanded_of_change (C := Try.checked) frame_own started (by kernel_rfl) Try.func4
    (ChangeSpec.witness6 (enc := enc) (C := Try.checked) false ⟨#[], #[.agg #[.int .i64 0, .int .i64 0], .agg #[.int .i64 0, .int .i64 0]], []⟩ 8 (by kernel_rfl) (by kernel_rfl) (by kernel_rfl) (by kernel_rfl)) ?_
  intro W base args ds gs before hval0 hW hcnd _
  have hval : ∀ (j : Nat) t v, Try.f4.params[j]? = some t → args[j]? = some v → Value.okWide Try.prog W .any base t v := hval0
  have hW' := hW
  obtain ⟨p, q, hA0, hV, rfl, hfz, hnd⟩ := hW
  have hA : DataW.TrodAll enc Try.prog W 0 (fun _ => true) true Try.f4.params.toList args.toList ds p := hA0
  rw [Try.params4] at hA hval
  obtain ⟨v0, vs0, d0, ds0, p0, q0, hargs, rfl, rfl, h0, r0⟩ := trodAll_cons hA
  obtain ⟨v1, vs1, d1, ds1, p1, q1, rfl, rfl, rfl, h1, r1⟩ := trodAll_cons r0
  obtain ⟨rfl, rfl, rfl⟩ := trodAll_nil r1
  obtain rfl : args = #[v0, v1] := by cases args; simp_all
  obtain ⟨rfl, rfl⟩ := trodVars_none hV
  have k0 := h0
  have lt0 : ∀ x ∈ p0, x.block < W.heap.size := by obtain ⟨m, hm⟩ := k0; exact DataW.trod_lt m _ _ _ hm
  obtain ⟨c0, e0, y0, z0, m0, rfl, rfl, rfl, hy0, hz0⟩ := open_agg2 Try.underlying23 (by kernel_rfl) frame_vec (hval 0 23 v0 rfl rfl) h0
  obtain ⟨x0, f0, g0, wx0⟩ := DataW.trod_int Try.underlying3 hy0
  obtain rfl : c0 = .int .i64 x0 := by simpa using f0
  obtain ⟨t0, f0, g0, wt0⟩ := DataW.trod_int Try.underlying3 hz0
  obtain rfl : e0 = .int .i64 t0 := by simpa using f0
  have k1 := h1
  have lt1 : ∀ x ∈ p1, x.block < W.heap.size := by obtain ⟨m, hm⟩ := k1; exact DataW.trod_lt m _ _ _ hm
  obtain ⟨c1, e1, y1, z1, m1, rfl, rfl, rfl, hy1, hz1⟩ := open_agg2 Try.underlying23 (by kernel_rfl) frame_vec (hval 1 23 v1 rfl rfl) h1
  obtain ⟨x1, f1, g1, wx1⟩ := DataW.trod_int Try.underlying3 hy1
  obtain rfl : c1 = .int .i64 x1 := by simpa using f1
  obtain ⟨t1, f1, g1, wt1⟩ := DataW.trod_int Try.underlying3 hz1
  obtain rfl : e1 = .int .i64 t1 := by simpa using f1
  clear hA0 hval0
  refine (LatticeArea_any x0 t0 x1 t1 W).mono fun e W' ⟨he, bel⟩ => ?_
  subst he
  exact ⟨_, rfl, _, _, _, [], _, [], hW', trodAll_mk1 (shut_bool Try.underlying4 _), (trodAll_cons_mk (Below.trod frame_laid (by kernel_rfl) (of_decide_eq_true (by kernel_rfl)) k0 bel lt0) (trodAll_cons_mk (Below.trod frame_laid (by kernel_rfl) (of_decide_eq_true (by kernel_rfl)) k1 bel lt1) trodAll_mk0)), rfl, bel.frame _, fun h => by cases h⟩

theorem LatticeArea_over : Rows.latticeAreaRow.holds Try.pinned (OpenSpec.ofChange Rows.latticeAreaSpec) :=
  OpenClaim.holds_of_wide 4 Try.f4 rfl rfl rfl rfl rfl rfl rfl ⟨rfl, rfl, rfl, rfl, rfl⟩ rfl rfl rfl rfl rfl (by kernel_rfl) Try.func4 (by kernel_rfl)
    (of_decide_eq_true (by kernel_rfl)) (by unfold Func.isWrapper; first | (rw [if_pos (by decide +kernel)]; kernel_rfl) | (rw [if_neg (by decide +kernel)]; exact ⟨rfl, rfl⟩))
    (fun os started H enc _ => frame_lifted os started H enc)

/-- THE STATEMENT -/
theorem LatticeArea_holds : Rows.LatticeAreaSaid := LatticeArea_over
end Go.Proofs.Ytghhccalfbgjjaa.LatticeAreaP
