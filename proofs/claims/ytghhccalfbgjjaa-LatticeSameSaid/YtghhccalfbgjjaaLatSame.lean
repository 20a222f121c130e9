/- It proves that rankmerelaw4.LatticeSame, called with any three vectors and any integer, returns true, and leaves its arguments as they were. There are no conditions. -/
import Derived.Test.YtghhccalfbgjjaaLat2
import Derived.Test.YtghhccalfbgjjaaVecs
import Derived.ProofKit
import Derived.OpenShut
import Derived.ShutString
import Derived.ChangeOld
import Derived.Lib.SmallJoins
namespace Go.Proofs.Ytghhccalfbgjjaa.LatticeSameP
open Go.ChangeShapes Go.WideShapes Go.ChangeAt Go.RowKit Go.Joins LatMath
open Go.ChangeMaps (open_string shut_string)
open Go.Proofs.Ytghhccalfbgjjaa
set_option linter.unusedVariables false
set_option linter.unusedSimpArgs false

theorem Same_wrong {a b c d k p q : Int} (h : vecsErr a b c d ≠ 0) (w : World) :
    Calls Try.prog 5 #[vec a b, vec c d, .int .i64 k, vec p q] w fun e w' => e = .returned (.bool true) ∧ Below w.heap.size w w' := by
  have hS := fun w => Short_wrong h w
  clear h
  generalize vecsErr a b c d = e at *
  go_enter Try.func5, Try.ntmps5
  go_wp2_with fail
  go_at_call 6
  refine (latticeFact_any _).mono ?_
  rintro e w1 ⟨rfl, hb⟩
  have hB := hb.mono (show w.heap.size + 3 ≤ _ from by simp)
  obtain ⟨hc, hf⟩ := rules hB
  clear hb
  go_wp2_with fail
  go_at_call 7
  refine (hS _).mono ?_
  rintro e w2 ⟨rfl, hb⟩
  have hB2 := step_below hB (by simp) hb
  clear hB hb hc hf hS
  go_wp2_with fail
  go_ret
  exact ⟨rfl, ((((Below.refl _ _).alloc (Nat.le_refl _) _).alloc (by simp) _).alloc (by simp; omega) _).trans (hB2.mono (by omega))⟩

theorem Same_far {a b c d k p q : Int} (h : vecsErr a b c d = 0) (hk : inB k (-1000) 1000 = false) (w : World) :
    Calls Try.prog 5 #[vec a b, vec c d, .int .i64 k, vec p q] w fun e w' => e = .returned (.bool true) ∧ Below w.heap.size w w' := by
  have hS := fun w => Short_good h w
  clear h
  go_enter Try.func5, Try.ntmps5
  go_wp2_with fail
  go_at_call 6
  refine (latticeFact_any _).mono ?_
  rintro e w1 ⟨rfl, hb⟩
  have hB := hb.mono (show w.heap.size + 3 ≤ _ from by simp)
  obtain ⟨hc, hf⟩ := rules hB
  clear hb
  go_wp2_with fail
  go_at_call 7
  refine (hS _).mono ?_
  rintro e w2 ⟨⟨A, C, rfl, hR⟩, hb⟩
  have hB2 := step_below hB (by simp) hb
  clear hB hb hc hf hS hR
  go_wp2_with (go_at_call 8; refine (in_any _ _ _ _).mono ?_; rintro e w' ⟨rfl, rfl⟩)
  go_ret
  exact ⟨rfl, ((((Below.refl _ _).alloc (Nat.le_refl _) _).alloc (by simp) _).alloc (by simp; omega) _).trans (hB2.mono (by omega))⟩

theorem err_one {a b c d x y z t : Int} (hU : Uni a b c d x y z t) (h : vecsErr a b c d = 0) (h2 : vecsErr x y z t ≠ 0) : vecsErr x y z t = 1 := by
  have hc := hU.cross
  have h0 := (vecsErr_good h).2.2
  have hn : ¬ (x * t - y * z = 0) := by omega
  unfold vecsErr at h2 ⊢
  split
  · rfl
  · rename_i g
    rw [if_neg g, if_neg hn] at h2
    exact absurd rfl h2

/-- the four variables of the law -/
def Four (w wr : World) (nb : Nat) (a b c d p q x y : Int) : Prop :=
  VecAt wr w.heap.size a b ∧ VecAt wr (w.heap.size + 1) c d ∧ VecAt wr (w.heap.size + 2) p q ∧ VecAt wr nb x y ∧ Below w.heap.size w wr ∧ w.heap.size + 2 < nb
theorem Four.step {w wr w' : World} {nb : Nat} {a b c d p q x y : Int} (h : Four w wr nb a b c d p q x y) (hb : Below wr.heap.size wr w') : Four w w' nb a b c d p q x y := by
  obtain ⟨h0, h1, h2, h3, h4, h5⟩ := h
  exact ⟨h0.below hb h0.lt, h1.below hb h1.lt, h2.below hb h2.lt, h3.below hb h3.lt, h4.trans (hb.mono h4.size), h5⟩
theorem Four.cells {w wr : World} {nb : Nat} {a b c d p q x y : Int} (h : Four w wr nb a b c d p q x y) :
    wr.cell? ⟨w.heap.size, 0, none⟩ = some (.int .i64 a) ∧ wr.cell? ⟨w.heap.size, 1, none⟩ = some (.int .i64 b) ∧ wr.cell? ⟨w.heap.size + 1, 0, none⟩ = some (.int .i64 c) ∧ wr.cell? ⟨w.heap.size + 1, 1, none⟩ = some (.int .i64 d) ∧
    wr.cell? ⟨w.heap.size + 2, 0, none⟩ = some (.int .i64 p) ∧ wr.cell? ⟨w.heap.size + 2, 1, none⟩ = some (.int .i64 q) ∧ wr.cell? ⟨nb, 0, none⟩ = some (.int .i64 x) ∧ wr.cell? ⟨nb, 1, none⟩ = some (.int .i64 y) := by
  obtain ⟨h0, h1, h2, h3, h4, h5⟩ := h
  exact ⟨h0.cell0, h0.cell1, h1.cell0, h1.cell1, h2.cell0, h2.cell1, h3.cell0, h3.cell1⟩
theorem Four.start {w w2 : World} {a b c d p q x y : Int} (hB : Below (w.heap.size + 3) (((w.alloc (.cells #[.int .i64 a, .int .i64 b] 23)).alloc (.cells #[.int .i64 c, .int .i64 d] 23)).alloc (.cells #[.int .i64 p, .int .i64 q] 23)) w2) :
    Four w (w2.alloc (.cells #[.int .i64 x, .int .i64 y] 23)) w2.heap.size a b c d p q x y := by
  have hs : w.heap.size + 3 ≤ w2.heap.size := by have := hB.size; simp at this; omega
  have hn : Below w2.heap.size w2 (w2.alloc (.cells #[.int .i64 x, .int .i64 y] 23)) := (Below.refl _ _).alloc (Nat.le_refl _) _
  have e1 : (w.alloc (.cells #[.int .i64 a, .int .i64 b] 23)).heap.size = w.heap.size + 1 := by simp
  have e2 : ((w.alloc (.cells #[.int .i64 a, .int .i64 b] 23)).alloc (.cells #[.int .i64 c, .int .i64 d] 23)).heap.size = w.heap.size + 2 := by simp
  refine ⟨?_, ?_, ?_, VecAt.new _ _ _, ?_, by omega⟩
  · exact (((VecAt.new w a b).below ((Below.refl _ _).alloc (Nat.le_refl _) (.cells #[.int .i64 c, .int .i64 d] 23)) (by simp)).below ((Below.refl _ _).alloc (Nat.le_refl _) (.cells #[.int .i64 p, .int .i64 q] 23)) (by simp; omega)).below hB (by omega) |>.below hn (by omega)
  · have h := VecAt.new (w.alloc (.cells #[.int .i64 a, .int .i64 b] 23)) c d
    rw [e1] at h
    exact ((h.below ((Below.refl _ _).alloc (Nat.le_refl _) (.cells #[.int .i64 p, .int .i64 q] 23)) (by simp)).below hB (by omega)).below hn (by omega)
  · have h := VecAt.new ((w.alloc (.cells #[.int .i64 a, .int .i64 b] 23)).alloc (.cells #[.int .i64 c, .int .i64 d] 23)) p q
    rw [e2] at h
    exact (h.below hB (by omega)).below hn (by omega)
  · exact ((((Below.refl _ _).alloc (Nat.le_refl _) _).alloc (by simp) _).alloc (by simp; omega) _).trans ((hB.mono (by omega)).trans (hn.mono (by omega)))

set_option maxHeartbeats 1000000 in
theorem Same_out {a b c d k p q : Int} (h : vecsErr a b c d = 0) (hk : inB k (-1000) 1000 = true) (h2 : vecsErr (c + k * a) (d + k * b) a b ≠ 0) (w : World) :
    Calls Try.prog 5 #[vec a b, vec c d, .int .i64 k, vec p q] w fun e w' => e = .returned (.bool true) ∧ Below w.heap.size w w' := by
  have hS := fun w => Short_good h w
  have hE := err_one (Uni.trans (Uni.shear1 a b c d (-k)) (Uni.refl _ _ _ _).swap) h (by rw [show c - -k * a = c + k * a from by rw [Int.neg_mul, Int.sub_neg], show d - -k * b = d + k * b from by rw [Int.neg_mul, Int.sub_neg]]; exact h2)
  rw [show c - -k * a = c + k * a from by rw [Int.neg_mul, Int.sub_neg], show d - -k * b = d + k * b from by rw [Int.neg_mul, Int.sub_neg]] at hE
  have hS2 := fun w => Short_wrong h2 w
  rw [hE] at hS2
  have hV := fun w => Vecs_any (c + k * a) (d + k * b) a b w
  rw [hE] at hV
  obtain ⟨g1, g2, g3, g4⟩ := good_bd h
  have k1 : -1000 ≤ k ∧ k ≤ 1000 := by simpa [inB] using hk
  obtain ⟨m1, m2⟩ := mul_bd k a 1000 1000 k1.1 k1.2 g1.1 g1.2
  obtain ⟨m3, m4⟩ := mul_bd k b 1000 1000 k1.1 k1.2 g2.1 g2.2
  obtain ⟨g5, g6⟩ := g3
  obtain ⟨g7, g8⟩ := g4
  clear h h2 hE k1 g1 g2
  go_enter Try.func5, Try.ntmps5
  go_wp2_with fail
  go_at_call 6
  refine (latticeFact_any _).mono ?_
  rintro e w1 ⟨rfl, hb⟩
  have hB := hb.mono (show w.heap.size + 3 ≤ _ from by simp)
  obtain ⟨hc, hf⟩ := rules hB
  clear hb
  go_wp2_with fail
  go_at_call 7
  refine (hS _).mono ?_
  rintro e w2 ⟨⟨A, C, rfl, hR⟩, hb⟩
  have hB2 := step_below hB (by simp) hb
  clear hB hb hc hf hS hR
  obtain ⟨hc, hf⟩ := rules hB2
  have l0 : w.heap.size < w2.heap.size := by have := hB2.size; simp at this; omega
  have F3 := Four.start (x := c + k * a) (y := d + k * b) hB2
  go_wp2_with (go_at_call 8; refine (in_any _ _ _ _).mono ?_; rintro e w' ⟨rfl, rfl⟩)
  go_at_call 7
  refine (hS2 _).mono ?_
  rintro e w3 ⟨rfl, hb⟩
  have F4 := F3.step hb
  generalize w2.heap.size = nb at *
  clear F3 hb hB2 hc hf hS2
  obtain ⟨d0, d1, d2, d3, d4, d5, d6, d7⟩ := F4.cells
  go_wp2_with fail
  go_at_call 10
  refine (hV _).mono ?_
  rintro e w4 ⟨rfl, hb⟩
  have F5 := F4.step hb
  go_wp2_with fail
  go_ret
  exact ⟨rfl, F5.2.2.2.2.1⟩

/-- what the two questions answer -/
def hasV (a b c d p q : Int) : Bool := !anyOut (-1000) 1000 [p, q] && (dvB (p * d - q * c) (a * d - b * c) && dvB (a * q - b * p) (a * d - b * c))
def hasE (p q : Int) : Value := if anyOut (-1000) 1000 [p, q] then .iface 42 (.int .i64 1) else .nilIface

theorem Has_two {a b c d p q : Int} (h : vecsErr a b c d = 0) (w : World) :
    Calls Try.prog 11 #[vec a b, vec c d, vec p q] w fun e' w' => e' = .returned (.tuple #[.bool (hasV a b c d p q), hasE p q]) ∧ Below w.heap.size w w' := by
  unfold hasV hasE
  cases hp : anyOut (-1000) 1000 [p, q]
  · simpa using Has_good h hp w
  · simpa using Has_far h hp w

theorem hasV_same (a b c d k p q : Int) : hasV (c + k * a) (d + k * b) a b p q = hasV a b c d p q := by
  unfold hasV dvB
  have e0 : (c + k * a) * b - (d + k * b) * a = -(a * d - b * c) := by grind
  have e1 : p * b - q * a = -(a * q - b * p) := by grind
  have e2 : (c + k * a) * q - (d + k * b) * p = -(p * d - q * c) + k * (a * q - b * p) := by grind
  rw [e0, e1, e2]
  congr 1
  rw [Bool.eq_iff_iff]
  simp only [Bool.and_eq_true, decide_eq_true_eq, Int.neg_dvd, Int.dvd_neg]
  constructor
  · rintro ⟨h1, h2⟩
    refine ⟨?_, h1⟩
    have h3 : a * d - b * c ∣ k * (a * q - b * p) := Int.dvd_trans h1 (Int.dvd_mul_left _ _)
    have := Int.dvd_sub h3 h2
    rw [show k * (a * q - b * p) - (-(p * d - q * c) + k * (a * q - b * p)) = p * d - q * c from by omega] at this
    exact this
  · rintro ⟨h1, h2⟩
    exact ⟨h2, Int.dvd_add (Int.dvd_neg.2 h1) (Int.dvd_trans h2 (Int.dvd_mul_left _ _))⟩

set_option maxHeartbeats 1000000 in
theorem Same_good {a b c d k p q : Int} (h : vecsErr a b c d = 0) (hk : inB k (-1000) 1000 = true) (h2 : vecsErr (c + k * a) (d + k * b) a b = 0) (w : World) :
    Calls Try.prog 5 #[vec a b, vec c d, .int .i64 k, vec p q] w fun e w' => e = .returned (.bool true) ∧ Below w.heap.size w w' := by
  have hS := fun w => Short_good h w
  have hS2 := fun w => Short_good h2 w
  have hA := fun w => Area_good h w
  have hA2 := fun w => Area_good h2 w
  have hH := fun w => Has_two (p := p) (q := q) h w
  have hH2 := fun w => Has_two (p := p) (q := q) h2 w
  rw [show ((c + k * a) * b - (d + k * b) * a).natAbs = (a * d - b * c).natAbs from by rw [show (c + k * a) * b - (d + k * b) * a = -(a * d - b * c) from by grind, Int.natAbs_neg]] at hA2
  rw [hasV_same a b c d k p q] at hH2
  have HU : ∀ A C, RedOf (c + k * a) (d + k * b) a b A C → RedOf a b c d A C := by
    intro A C hR
    refine hR.of_uni ?_
    have := (Uni.shear1 a b c d (-k)).swap
    rw [show c - -k * a = c + k * a from by rw [Int.neg_mul, Int.sub_neg], show d - -k * b = d + k * b from by rw [Int.neg_mul, Int.sub_neg]] at this
    exact this
  have h0 := Lib.hid (vecsErr_good h).2.2
  have HUH := Lib.hid HU
  generalize ((a * d - b * c).natAbs : Int) = N at *
  generalize hasV a b c d p q = hv at *
  have he : hasE p q = .nilIface ∨ hasE p q = .iface 42 (.int .i64 1) := by unfold hasE; split <;> simp
  obtain ⟨g1, g2, g3, g4⟩ := good_bd h
  have k1 : -1000 ≤ k ∧ k ≤ 1000 := by simpa [inB] using hk
  obtain ⟨m1, m2⟩ := mul_bd k a 1000 1000 k1.1 k1.2 g1.1 g1.2
  obtain ⟨m3, m4⟩ := mul_bd k b 1000 1000 k1.1 k1.2 g2.1 g2.2
  obtain ⟨g5, g6⟩ := g3
  obtain ⟨g7, g8⟩ := g4
  clear h h2 k1 g1 g2 HU
  go_enter Try.func5, Try.ntmps5
  go_wp2_with fail
  go_at_call 6
  refine (latticeFact_any _).mono ?_
  rintro e w1 ⟨rfl, hb⟩
  have hB := hb.mono (show w.heap.size + 3 ≤ _ from by simp)
  obtain ⟨hc, hf⟩ := rules hB
  clear hb
  go_wp2_with fail
  go_at_call 7
  refine (hS _).mono ?_
  rintro e w2 ⟨⟨A, C, rfl, hR⟩, hb⟩
  have hB2 := step_below hB (by simp) hb
  have HR := Lib.hid hR
  clear hB hb hc hf hS hR
  obtain ⟨hc, hf⟩ := rules hB2
  have l0 : w.heap.size < w2.heap.size := by have := hB2.size; simp at this; omega
  have F3 := Four.start (x := c + k * a) (y := d + k * b) hB2
  go_wp2_with (go_at_call 8; refine (in_any _ _ _ _).mono ?_; rintro e w' ⟨rfl, rfl⟩)
  go_at_call 7
  refine (hS2 _).mono ?_
  rintro e w3 ⟨⟨A', C', rfl, hR'⟩, hb⟩
  obtain ⟨rfl, rfl⟩ := HR.out.unique (HUH.out _ _ hR') h0.out
  have F4 := F3.step hb
  generalize w2.heap.size = nb at *
  clear F3 hb hB2 hc hf hS2 hR'
  obtain ⟨d0, d1, d2, d3, d4, d5, d6, d7⟩ := F4.cells
  go_wp2_with fail
  go_at_call 9
  refine (hA _).mono ?_
  rintro e w4 ⟨rfl, hb⟩
  have F5 := F4.step hb
  clear d0 d1 d2 d3 d4 d5 d6 d7 F4 hb
  obtain ⟨d0, d1, d2, d3, d4, d5, d6, d7⟩ := F5.cells
  go_wp2_with fail
  go_at_call 9
  refine (hA2 _).mono ?_
  rintro e w5 ⟨rfl, hb⟩
  have F6 := F5.step hb
  clear d0 d1 d2 d3 d4 d5 d6 d7 F5 hb
  obtain ⟨d0, d1, d2, d3, d4, d5, d6, d7⟩ := F6.cells
  go_wp2_with fail
  go_at_call 11
  refine (hH _).mono ?_
  rintro e w6 ⟨rfl, hb⟩
  have F7 := F6.step hb
  clear d0 d1 d2 d3 d4 d5 d6 d7 F6 hb
  obtain ⟨d0, d1, d2, d3, d4, d5, d6, d7⟩ := F7.cells
  go_wp2_with fail
  go_at_call 11
  refine (hH2 _).mono ?_
  rintro e w7 ⟨rfl, hb⟩
  have F8 := F7.step hb
  clear d0 d1 d2 d3 d4 d5 d6 d7 F7 hb hH hH2 hA hA2 HUH HR h0
  rcases he with he | he
  all_goals
    rw [he]
    clear he
    cases hv
    all_goals
      go_wp2_with fail
      refine wp_region_quiet (C := Cls w7.heap.size w7) (by kernel_rfl) (by kernel_rfl) Cls.start ?_
      repeat
        (refine wpQuiet_step (fun K hK => ?_)
         go_simp
         first
           | (refine hK _ ?_; clear hK K)
           | (apply Exists.intro
              refine ⟨fun w' hC => ?_, hK _ ?_⟩
              · (obtain ⟨hr, hr2⟩ := hC.rules
                 first
                   | (fail)
                   | (go_simp; done)
                   | (go_simp; rfl))
              clear hK K))
      refine wpQuiet_nil ?_
      intro w8 hw8
      go_wp2_with fail
      go_ret
      exact ⟨rfl, F8.2.2.2.2.1.trans (hw8.mono F8.2.2.2.2.1.size)⟩

theorem LatticeSame_any (a b c d k p q : Int) (w : World) :
    Calls Try.prog 5 #[vec a b, vec c d, .int .i64 k, vec p q] w fun e w' => e = .returned (.bool true) ∧ Below w.heap.size w w' := by
  by_cases h : vecsErr a b c d = 0
  · cases hk : inB k (-1000) 1000
    · exact Same_far h hk w
    · by_cases h2 : vecsErr (c + k * a) (d + k * b) a b = 0
      · exact Same_good h hk h2 w
      · exact Same_out h hk h2 w
  · exact Same_wrong h w
theorem frame_own : ownKnob Try.prog.godebug = none := by kernel_rfl
theorem frame_laid : laidOutB Try.prog = true := by kernel_rfl
theorem frame_vec : Try.prog.cellsOf 23 = 2 := by kernel_rfl
set_option maxRecDepth 100000 in
theorem frame_lifted (os : Os) (started : os.Started) (H : Type) (enc : TypeId × Value → H) :
    ReturnsInHanded {} Try.checked os 5 .any (Rows.latticeSameSpec.pre6 enc Try.prog Try.f5 Rows.latticeSameRow.domain false) (Rows.latticeSameSpec.post enc Try.prog Try.f5 false true false false) := by
  refine returnsInHanded_of_change (C := Try.checked) frame_own started (by kernel_rfl) Try.func5
    (ChangeSpec.witness6 (enc := enc) (C := Try.checked) false ⟨#[], #[.agg #[.int .i64 0, .int .i64 0], .agg #[.int .i64 0, .int .i64 0], .int .i64 0, .agg #[.int .i64 0, .int .i64 0]], []⟩ 8 (by kernel_rfl) (by kernel_rfl) (by kernel_rfl) (by kernel_rfl)) ?_
  intro W base args ds gs before hval0 hW hcnd _
  have hval : ∀ (j : Nat) t v, Try.f5.params[j]? = some t → args[j]? = some v → Value.okWide Try.prog W .any base t v := hval0
  have hW' := hW
  obtain ⟨p, q, hA0, hV, rfl, hfz, hnd⟩ := hW
  have hA : DataW.TrodAll enc Try.prog W 0 (fun _ => true) true Try.f5.params.toList args.toList ds p := hA0
  rw [Try.params5] at hA hval
  obtain ⟨v0, vs0, d0, ds0, p0, q0, hargs, rfl, rfl, h0, r0⟩ := trodAll_cons hA
  obtain ⟨v1, vs1, d1, ds1, p1, q1, rfl, rfl, rfl, h1, r1⟩ := trodAll_cons r0
  obtain ⟨v2, vs2, d2, ds2, p2, q2, rfl, rfl, rfl, h2, r2⟩ := trodAll_cons r1
  obtain ⟨v3, vs3, d3, ds3, p3, q3, rfl, rfl, rfl, h3, r3⟩ := trodAll_cons r2
  obtain ⟨rfl, rfl, rfl⟩ := trodAll_nil r3
  obtain rfl : args = #[v0, v1, v2, v3] := by cases args; simp_all
  obtain ⟨rfl, rfl⟩ := trodVars_none hV
  have k0 := h0
  have lt0 : ∀ x ∈ p0, x.block < W.heap.size := by obtain ⟨m, hm⟩ := k0; exact DataW.trod_lt m _ _ _ hm
  obtain ⟨c0, e0, y0, z0, m0, rfl, rfl, rfl, hy0, hz0⟩ := open_agg2 Try.underlying23 (by kernel_rfl) frame_vec (hval 0 23 v0 rfl rfl) h0
  obtain ⟨x0, f0, g0, wx0⟩ := DataW.trod_int Try.underlying3 hy0
  obtain rfl : c0 = .int .i64 x0 := by simpa using f0
  obtain ⟨t0, f0, g0, wt0⟩ := DataW.trod_int Try.underlying3 hz0
  obtain rfl : e0 = .int .i64 t0 := by simpa using f0
  have k1 := h1
  have lt1 : ∀ x ∈ p1, x.block < W.heap.size := by obtain ⟨m, hm⟩ := k1; exact DataW.trod_lt m _ _ _ hm
  obtain ⟨c1, e1, y1, z1, m1, rfl, rfl, rfl, hy1, hz1⟩ := open_agg2 Try.underlying23 (by kernel_rfl) frame_vec (hval 1 23 v1 rfl rfl) h1
  obtain ⟨x1, f1, g1, wx1⟩ := DataW.trod_int Try.underlying3 hy1
  obtain rfl : c1 = .int .i64 x1 := by simpa using f1
  obtain ⟨t1, f1, g1, wt1⟩ := DataW.trod_int Try.underlying3 hz1
  obtain rfl : e1 = .int .i64 t1 := by simpa using f1
  have k2 := h2
  have lt2 : ∀ x ∈ p2, x.block < W.heap.size := by obtain ⟨m, hm⟩ := k2; exact DataW.trod_lt m _ _ _ hm
  obtain ⟨a2, rfl, rfl, rfl, w2⟩ := open_int Try.underlying3 (hval 2 3 v2 rfl rfl) h2
  have k3 := h3
  have lt3 : ∀ x ∈ p3, x.block < W.heap.size := by obtain ⟨m, hm⟩ := k3; exact DataW.trod_lt m _ _ _ hm
  obtain ⟨c3, e3, y3, z3, m3, rfl, rfl, rfl, hy3, hz3⟩ := open_agg2 Try.underlying23 (by kernel_rfl) frame_vec (hval 3 23 v3 rfl rfl) h3
  obtain ⟨x3, f3, g3, wx3⟩ := DataW.trod_int Try.underlying3 hy3
  obtain rfl : c3 = .int .i64 x3 := by simpa using f3
  obtain ⟨t3, f3, g3, wt3⟩ := DataW.trod_int Try.underlying3 hz3
  obtain rfl : e3 = .int .i64 t3 := by simpa using f3
  clear hA0 hval0
  refine (LatticeSame_any x0 t0 x1 t1 a2 x3 t3 W).mono fun e W' ⟨he, bel⟩ => ?_
  subst he
  exact ⟨_, rfl, _, _, _, [], _, [], hW', trodAll_mk1 (shut_bool Try.underlying4 _), (trodAll_cons_mk (Below.trod frame_laid (by kernel_rfl) (of_decide_eq_true (by kernel_rfl)) k0 bel lt0) (trodAll_cons_mk (Below.trod frame_laid (by kernel_rfl) (of_decide_eq_true (by kernel_rfl)) k1 bel lt1) (trodAll_cons_mk (Below.trod frame_laid (by kernel_rfl) (of_decide_eq_true (by kernel_rfl)) k2 bel lt2) (trodAll_cons_mk (Below.trod frame_laid (by kernel_rfl) (of_decide_eq_true (by kernel_rfl)) k3 bel lt3) trodAll_mk0)))), rfl, bel.frame _, fun h => by cases h⟩

theorem LatticeSame_over : Rows.latticeSameRow.holds Try.pinned (OpenSpec.ofChange Rows.latticeSameSpec) :=
  OpenClaim.holds_of_wide 5 Try.f5 rfl rfl rfl rfl rfl rfl rfl ⟨rfl, rfl, rfl, rfl, rfl⟩ rfl rfl rfl rfl rfl (by kernel_rfl) Try.func5 (by kernel_rfl)
    (of_decide_eq_true (by kernel_rfl)) (by unfold Func.isWrapper; first | (rw [if_pos (by decide +kernel)]; kernel_rfl) | (rw [if_neg (by decide +kernel)]; exact ⟨rfl, rfl⟩))
    (fun os started H enc _ => frame_lifted os started H enc)

/-- THE STATEMENT -/
theorem LatticeSame_holds : Rows.LatticeSameSaid := LatticeSame_over
end Go.Proofs.Ytghhccalfbgjjaa.LatticeSameP
