/- Contracts of package lattice: Check, Area, Has. -/
import Derived.Test.YtkfkfpfcghobfaaDoorAny
import Derived.Test.YtkfkfpfcghobfaaDoorAbs
import Derived.Deep.LoopGhost
import Derived.BigQuiet
namespace Go.Proofs.YtkfkfpfcghobfaaDoor
open Go.RowKit
set_option linter.unusedVariables false
set_option linter.unusedSimpArgs false

abbrev vec (x y : Int) : Value := .agg #[.int .i64 x, .int .i64 y]

theorem mul_bd (a b B C : Int) (h1 : -B ≤ a) (h2 : a ≤ B) (h3 : -C ≤ b) (h4 : b ≤ C) : -(B * C) ≤ a * b ∧ a * b ≤ B * C := by
  have hB : 0 ≤ B := by omega
  have hC : 0 ≤ C := by omega
  have e1 : 0 ≤ (B - a) * (C + b) := Int.mul_nonneg (by omega) (by omega)
  have e2 : 0 ≤ (B + a) * (C - b) := Int.mul_nonneg (by omega) (by omega)
  have e3 : 0 ≤ (B - a) * (C - b) := Int.mul_nonneg (by omega) (by omega)
  have e4 : 0 ≤ (B + a) * (C + b) := Int.mul_nonneg (by omega) (by omega)
  simp only [Int.sub_mul, Int.add_mul, Int.mul_add, Int.mul_sub] at e1 e2 e3 e4
  generalize B * C = p at *
  generalize a * b = q at *
  generalize B * b = r at *
  generalize a * C = s at *
  omega

def Sm (a : Int) : Prop := -2000 ≤ a ∧ a ≤ 2000
theorem sm_mul {a b : Int} (h : Sm a) (k : Sm b) : -4000000 ≤ a * b ∧ a * b ≤ 4000000 := mul_bd a b 2000 2000 h.1 h.2 k.1 k.2

theorem cross_any (a b c d : Int) (w : World) (ha : Sm a) (hb : Sm b) (hc : Sm c) (hd : Sm d) :
    Calls Tryd.prog 17 #[vec a b, vec c d] w fun e w' => e = .returned (.int .i64 (a * d - b * c)) ∧ Below w.heap.size w w' := by
  obtain ⟨h1, h2⟩ := sm_mul ha hd
  obtain ⟨h3, h4⟩ := sm_mul hb hc
  go_enter Tryd.func17, Tryd.ntmps17
  go_wp2
  go_ret
  exact ⟨rfl, ((Below.refl _ _).alloc (Nat.le_refl _) _).alloc (by simp) _⟩

theorem wide_any (a b : Int) (w : World) :
    Calls Tryd.prog 16 #[vec a b] w fun e w' => e = .returned (.bool (anyOut (-1000) 1000 [a, b])) ∧ Below w.heap.size w w' := by
  go_enter Tryd.func16, Tryd.ntmps16
  go_wp2_with (go_at_call 25; refine (Any_any _ 2 2 [a, b] _ _ _ (IntsAt_two _ _ _ _ (by simp) (by simp)) (by omega)).mono ?_; rintro e w' ⟨rfl, rfl⟩)
  go_ret
  exact ⟨rfl, ((Below.refl _ _).alloc (Nat.le_refl _) _).alloc (by simp) _⟩

/-- what is wrong with two vectors -/
def vecsErr (a b c d : Int) : Int := if anyOut (-1000) 1000 [a, b] = true ∨ anyOut (-1000) 1000 [c, d] = true then 1 else if a * d - b * c = 0 then 6 else 0

theorem anyOut_two {x y : Int} (h : anyOut (-1000) 1000 [x, y] = false) : Sm x ∧ Sm y := by
  simp [anyOut, outB] at h
  unfold Sm
  omega

theorem Check_wide1 (a b c d : Int) (w : World) (h : anyOut (-1000) 1000 [a, b] = true) :
    Calls Tryd.prog 6 #[vec a b, vec c d] w fun e w' => e = .returned (.iface 43 (.int .i64 1)) ∧ Below w.heap.size w w' := by
  go_enter Tryd.func6, Tryd.ntmps6
  go_wp2_with (first
    | (go_at_call 16; refine (wide_any _ _ _).mono ?_; rintro e w' ⟨rfl, hb⟩))
  go_ret
  exact ⟨rfl, (((Below.refl _ _).alloc (Nat.le_refl _) _).alloc (by simp) _).trans (hb.mono (by simp; omega))⟩

theorem Check_wide2 (a b c d : Int) (w : World) (h : anyOut (-1000) 1000 [a, b] = false) (h2 : anyOut (-1000) 1000 [c, d] = true) :
    Calls Tryd.prog 6 #[vec a b, vec c d] w fun e w' => e = .returned (.iface 43 (.int .i64 1)) ∧ Below w.heap.size w w' := by
  go_enter Tryd.func6, Tryd.ntmps6
  go_wp2_with fail
  go_at_call 16
  refine (wide_any _ _ _).mono ?_
  rintro e w1 ⟨rfl, hb⟩
  have hB := hb.mono (show w.heap.size + 2 ≤ _ from by simp)
  obtain ⟨hc, hf⟩ := rules hB
  clear hb
  go_wp2_with fail
  go_at_call 16
  refine (wide_any _ _ _).mono ?_
  rintro e w2 ⟨rfl, hb2⟩
  have hB2 := step_below hB (by simp) hb2
  clear hB hb2 hc hf
  go_wp2_with fail
  go_ret
  exact ⟨rfl, (((Below.refl _ _).alloc (Nat.le_refl _) _).alloc (by simp) _).trans (hB2.mono (by omega))⟩

theorem Check_three (a b c d : Int) (w : World) (h : anyOut (-1000) 1000 [a, b] = false) (h2 : anyOut (-1000) 1000 [c, d] = false) :
    Calls Tryd.prog 6 #[vec a b, vec c d] w fun e w' => e = .returned (if a * d - b * c = 0 then .iface 43 (.int .i64 6) else .nilIface) ∧ Below w.heap.size w w' := by
  have s1 := anyOut_two h
  have s2 := anyOut_two h2
  by_cases h0 : a * d - b * c = 0
  all_goals
    go_enter Tryd.func6, Tryd.ntmps6
    go_wp2_with fail
    go_at_call 16
    refine (wide_any _ _ _).mono ?_
    rintro e w1 ⟨rfl, hb⟩
    have hB := hb.mono (show w.heap.size + 2 ≤ _ from by simp)
    obtain ⟨hc, hf⟩ := rules hB
    clear hb
    go_wp2_with fail
    go_at_call 16
    refine (wide_any _ _ _).mono ?_
    rintro e w2 ⟨rfl, hb2⟩
    have hB2 := step_below hB (by simp) hb2
    clear hB hb2 hc hf
    obtain ⟨hc, hf⟩ := rules hB2
    go_wp2_with fail
    go_at_call 17
    refine (cross_any _ _ _ _ _ s1.1 s1.2 s2.1 s2.2).mono ?_
    rintro e w3 ⟨rfl, hb3⟩
    have hB3 := step_below hB2 (by simp) hb3
    clear hB2 hb3 hc hf s1 s2
    go_wp2_with fail
    go_ret
    exact ⟨by simp [h0], (((Below.refl _ _).alloc (Nat.le_refl _) _).alloc (by simp) _).trans (hB3.mono (by omega))⟩

theorem Check_bad {a b c d : Int} (h : vecsErr a b c d ≠ 0) (w : World) :
    Calls Tryd.prog 6 #[vec a b, vec c d] w fun e w' => e = .returned (.iface 43 (.int .i64 (vecsErr a b c d))) ∧ Below w.heap.size w w' := by
  cases h1 : anyOut (-1000) 1000 [a, b] with
  | true => rw [show vecsErr a b c d = 1 from by simp [vecsErr, h1]]; exact Check_wide1 a b c d w h1
  | false =>
    cases h2 : anyOut (-1000) 1000 [c, d] with
    | true => rw [show vecsErr a b c d = 1 from by simp [vecsErr, h2]]; exact Check_wide2 a b c d w h1 h2
    | false =>
      have h3 : a * d - b * c = 0 := by
        by_cases h3 : a * d - b * c = 0
        · exact h3
        · exact absurd (by simp [vecsErr, h1, h2, h3]) h
      rw [show vecsErr a b c d = 6 from by simp [vecsErr, h1, h2, h3]]
      have := Check_three a b c d w h1 h2
      rw [if_pos h3] at this
      exact this

theorem vecsErr_good {a b c d : Int} (h : vecsErr a b c d = 0) : anyOut (-1000) 1000 [a, b] = false ∧ anyOut (-1000) 1000 [c, d] = false ∧ a * d - b * c ≠ 0 := by
  cases h1 : anyOut (-1000) 1000 [a, b] with
  | true => simp [vecsErr, h1] at h
  | false =>
    cases h2 : anyOut (-1000) 1000 [c, d] with
    | true => simp [vecsErr, h2] at h
    | false =>
      refine ⟨rfl, rfl, fun h3 => ?_⟩
      simp [vecsErr, h1, h2, h3] at h

theorem Check_good {a b c d : Int} (h : vecsErr a b c d = 0) (w : World) :
    Calls Tryd.prog 6 #[vec a b, vec c d] w fun e w' => e = .returned .nilIface ∧ Below w.heap.size w w' := by
  obtain ⟨h1, h2, h3⟩ := vecsErr_good h
  have := Check_three a b c d w h1 h2
  rw [if_neg h3] at this
  exact this

/-- the four coordinates are in range -/
theorem good_bd {a b c d : Int} (h : vecsErr a b c d = 0) : (-1000 ≤ a ∧ a ≤ 1000) ∧ (-1000 ≤ b ∧ b ≤ 1000) ∧ (-1000 ≤ c ∧ c ≤ 1000) ∧ (-1000 ≤ d ∧ d ≤ 1000) := by
  obtain ⟨h1, h2, h3⟩ := vecsErr_good h
  simp [anyOut, outB] at h1 h2
  omega

theorem Area_wrong {a b c d : Int} (h : vecsErr a b c d ≠ 0) (w : World) :
    Calls Tryd.prog 10 #[vec a b, vec c d] w fun e' w' => e' = .returned (.tuple #[.int .i64 0, .iface 43 (.int .i64 (vecsErr a b c d))]) ∧ Below w.heap.size w w' := by
  have hck := fun w => Check_bad h w
  generalize vecsErr a b c d = e at *
  go_enter Tryd.func10, Tryd.ntmps10
  go_wp2_with fail
  go_at_call 6
  refine (hck _).mono ?_
  rintro e w1 ⟨rfl, hb⟩
  have hB := hb.mono (show w.heap.size + 2 ≤ _ from by simp)
  clear hb
  go_wp2_with fail
  go_ret2
  exact ⟨rfl, (((Below.refl _ _).alloc (Nat.le_refl _) _).alloc (by simp) _).trans (hB.mono (by omega))⟩

theorem sm_of {a : Int} (h : -1000 ≤ a ∧ a ≤ 1000) : Sm a := by unfold Sm; omega

theorem Area_good {a b c d : Int} (h : vecsErr a b c d = 0) (w : World) :
    Calls Tryd.prog 10 #[vec a b, vec c d] w fun e' w' => e' = .returned (.tuple #[.int .i64 (a * d - b * c).natAbs, .nilIface]) ∧ Below w.heap.size w w' := by
  have hck := fun w => Check_good h w
  obtain ⟨g1, g2, g3, g4⟩ := good_bd h
  have s1 := sm_of g1
  have s2 := sm_of g2
  have s3 := sm_of g3
  have s4 := sm_of g4
  obtain ⟨b1, b2⟩ := sm_mul s1 s4
  obtain ⟨b3, b4⟩ := sm_mul s2 s3
  clear g1 g2 g3 g4 h
  go_enter Tryd.func10, Tryd.ntmps10
  go_wp2_with fail
  go_at_call 6
  refine (hck _).mono ?_
  rintro e w1 ⟨rfl, hb⟩
  have hB := hb.mono (show w.heap.size + 2 ≤ _ from by simp)
  obtain ⟨hc, hf⟩ := rules hB
  clear hb
  go_wp2_with fail
  go_at_call 17
  refine (cross_any _ _ _ _ _ s1 s2 s3 s4).mono ?_
  rintro e w2 ⟨rfl, hb⟩
  have hB2 := step_below hB (by simp) hb
  clear hB hb hc hf
  go_wp2_with fail
  go_at_call 21
  refine (Abs_any _ _ (by omega) (by omega)).mono ?_
  rintro e w3 ⟨rfl, rfl⟩
  go_wp2_with fail
  go_ret2
  exact ⟨rfl, (((Below.refl _ _).alloc (Nat.le_refl _) _).alloc (by simp) _).trans (hB2.mono (by omega))⟩

def dvB (x d : Int) : Bool := decide (d ∣ x)
theorem dvB_tmod {x d : Int} : (x.tmod d == 0) = dvB x d := by
  unfold dvB
  rw [Bool.eq_iff_iff]
  simp [Int.dvd_iff_tmod_eq_zero]

theorem LHas_wrong {a b c d p q : Int} (h : vecsErr a b c d ≠ 0) (w : World) :
    Calls Tryd.prog 13 #[vec a b, vec c d, vec p q] w fun e' w' => e' = .returned (.tuple #[.bool false, .iface 43 (.int .i64 (vecsErr a b c d))]) ∧ Below w.heap.size w w' := by
  have hck := fun w => Check_bad h w
  generalize vecsErr a b c d = e at *
  go_enter Tryd.func13, Tryd.ntmps13
  go_wp2_with fail
  go_at_call 6
  refine (hck _).mono ?_
  rintro e w1 ⟨rfl, hb⟩
  have hB := hb.mono (show w.heap.size + 3 ≤ _ from by simp)
  clear hb
  go_wp2_with fail
  go_ret2
  exact ⟨rfl, ((((Below.refl _ _).alloc (Nat.le_refl _) _).alloc (by simp) _).alloc (by simp; omega) _).trans (hB.mono (by omega))⟩

theorem LHas_far {a b c d p q : Int} (h : vecsErr a b c d = 0) (hp : anyOut (-1000) 1000 [p, q] = true) (w : World) :
    Calls Tryd.prog 13 #[vec a b, vec c d, vec p q] w fun e' w' => e' = .returned (.tuple #[.bool false, .iface 43 (.int .i64 1)]) ∧ Below w.heap.size w w' := by
  have hck := fun w => Check_good h w
  clear h
  go_enter Tryd.func13, Tryd.ntmps13
  go_wp2_with fail
  go_at_call 6
  refine (hck _).mono ?_
  rintro e w1 ⟨rfl, hb⟩
  have hB := hb.mono (show w.heap.size + 3 ≤ _ from by simp)
  obtain ⟨hc, hf⟩ := rules hB
  clear hb
  go_wp2_with fail
  go_at_call 16
  refine (wide_any _ _ _).mono ?_
  rintro e w2 ⟨rfl, hb⟩
  have hB2 := step_below hB (by simp) hb
  clear hB hb hc hf
  go_wp2_with fail
  go_ret2
  exact ⟨rfl, ((((Below.refl _ _).alloc (Nat.le_refl _) _).alloc (by simp) _).alloc (by simp; omega) _).trans (hB2.mono (by omega))⟩

theorem LHas_good {a b c d p q : Int} (h : vecsErr a b c d = 0) (hp : anyOut (-1000) 1000 [p, q] = false) (w : World) :
    Calls Tryd.prog 13 #[vec a b, vec c d, vec p q] w fun e' w' => e' = .returned (.tuple #[.bool (dvB (p * d - q * c) (a * d - b * c) && dvB (a * q - b * p) (a * d - b * c)), .nilIface]) ∧ Below w.heap.size w w' := by
  have hck := fun w => Check_good h w
  obtain ⟨g1, g2, g3, g4⟩ := good_bd h
  have s1 := sm_of g1
  have s2 := sm_of g2
  have s3 := sm_of g3
  have s4 := sm_of g4
  obtain ⟨s5, s6⟩ := anyOut_two hp
  have hd := (vecsErr_good h).2.2
  clear g1 g2 g3 g4 h
  cases ht1 : ((p * d - q * c).tmod (a * d - b * c) == 0) <;> cases ht2 : ((a * q - b * p).tmod (a * d - b * c) == 0)
  all_goals
    go_enter Tryd.func13, Tryd.ntmps13
    go_wp2_with fail
    go_at_call 6
    refine (hck _).mono ?_
    rintro e w1 ⟨rfl, hb⟩
    have hB := hb.mono (show w.heap.size + 3 ≤ _ from by simp)
    obtain ⟨hc, hf⟩ := rules hB
    clear hb
    go_wp2_with fail
    go_at_call 16
    refine (wide_any _ _ _).mono ?_
    rintro e w2 ⟨rfl, hb⟩
    have hB2 := step_below hB (by simp) hb
    clear hB hb hc hf
    obtain ⟨hc, hf⟩ := rules hB2
    go_wp2_with fail
    go_at_call 17
    refine (cross_any _ _ _ _ _ s1 s2 s3 s4).mono ?_
    rintro e w3 ⟨rfl, hb⟩
    have hB3 := step_below hB2 (by simp) hb
    clear hB2 hb hc hf
    obtain ⟨hc, hf⟩ := rules hB3
    go_wp2_with fail
    go_at_call 17
    refine (cross_any _ _ _ _ _ s5 s6 s3 s4).mono ?_
    rintro e w4 ⟨rfl, hb⟩
    have hB4 := step_below hB3 (by simp) hb
    clear hB3 hb hc hf
    obtain ⟨hc, hf⟩ := rules hB4
    go_wp2_with fail
    first
      | (go_ret2
         exact ⟨by rw [← dvB_tmod, ht1]; rfl, ((((Below.refl _ _).alloc (Nat.le_refl _) _).alloc (by simp) _).alloc (by simp; omega) _).trans (hB4.mono (by omega))⟩)
      | (go_at_call 17
         refine (cross_any _ _ _ _ _ s1 s2 s5 s6).mono ?_
         rintro e w5 ⟨rfl, hb⟩
         have hB5 := step_below hB4 (by simp) hb
         clear hB4 hb hc hf
         go_wp2_with fail
         go_ret2
         exact ⟨by rw [← dvB_tmod, ← dvB_tmod, ht1, ht2]; rfl, ((((Below.refl _ _).alloc (Nat.le_refl _) _).alloc (by simp) _).alloc (by simp; omega) _).trans (hB5.mono (by omega))⟩)

end Go.Proofs.YtkfkfpfcghobfaaDoor
