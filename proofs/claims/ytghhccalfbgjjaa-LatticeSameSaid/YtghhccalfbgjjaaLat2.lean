/- lattice.Has; latticeFact. -/
import Derived.Test.YtghhccalfbgjjaaLat
namespace Go.Proofs.Ytghhccalfbgjjaa
open Go.RowKit LatMath
set_option linter.unusedVariables false
set_option linter.unusedSimpArgs false

def dvB (x d : Int) : Bool := decide (d ∣ x)
theorem dvB_tmod {x d : Int} : (x.tmod d == 0) = dvB x d := by
  unfold dvB
  rw [Bool.eq_iff_iff]
  simp [Int.dvd_iff_tmod_eq_zero]

theorem Has_wrong {a b c d p q : Int} (h : vecsErr a b c d ≠ 0) (w : World) :
    Calls Try.prog 11 #[vec a b, vec c d, vec p q] w fun e' w' => e' = .returned (.tuple #[.bool false, .iface 42 (.int .i64 (vecsErr a b c d))]) ∧ Below w.heap.size w w' := by
  have hck := fun w => Check_bad h w
  generalize vecsErr a b c d = e at *
  go_enter Try.func11, Try.ntmps11
  go_wp2_with fail
  go_at_call 12
  refine (hck _).mono ?_
  rintro e w1 ⟨rfl, hb⟩
  have hB := hb.mono (show w.heap.size + 3 ≤ _ from by simp)
  clear hb
  go_wp2_with fail
  go_ret2
  exact ⟨rfl, ((((Below.refl _ _).alloc (Nat.le_refl _) _).alloc (by simp) _).alloc (by simp; omega) _).trans (hB.mono (by omega))⟩

theorem Has_far {a b c d p q : Int} (h : vecsErr a b c d = 0) (hp : anyOut (-1000) 1000 [p, q] = true) (w : World) :
    Calls Try.prog 11 #[vec a b, vec c d, vec p q] w fun e' w' => e' = .returned (.tuple #[.bool false, .iface 42 (.int .i64 1)]) ∧ Below w.heap.size w w' := by
  have hck := fun w => Check_good h w
  clear h
  go_enter Try.func11, Try.ntmps11
  go_wp2_with fail
  go_at_call 12
  refine (hck _).mono ?_
  rintro e w1 ⟨rfl, hb⟩
  have hB := hb.mono (show w.heap.size + 3 ≤ _ from by simp)
  obtain ⟨hc, hf⟩ := rules hB
  clear hb
  go_wp2_with fail
  go_at_call 18
  refine (wide_any _ _ _).mono ?_
  rintro e w2 ⟨rfl, hb⟩
  have hB2 := step_below hB (by simp) hb
  clear hB hb hc hf
  go_wp2_with fail
  go_ret2
  exact ⟨rfl, ((((Below.refl _ _).alloc (Nat.le_refl _) _).alloc (by simp) _).alloc (by simp; omega) _).trans (hB2.mono (by omega))⟩

theorem Has_good {a b c d p q : Int} (h : vecsErr a b c d = 0) (hp : anyOut (-1000) 1000 [p, q] = false) (w : World) :
    Calls Try.prog 11 #[vec a b, vec c d, vec p q] w fun e' w' => e' = .returned (.tuple #[.bool (dvB (p * d - q * c) (a * d - b * c) && dvB (a * q - b * p) (a * d - b * c)), .nilIface]) ∧ Below w.heap.size w w' := by
  have hck := fun w => Check_good h w
  obtain ⟨g1, g2, g3, g4⟩ := good_bd h
  have s1 := sm_of g1
  have s2 := sm_of g2
  have s3 := sm_of g3
  have s4 := sm_of g4
  obtain ⟨s5, s6⟩ := anyOut_two hp
  have hd := (vecsErr_good h).2.2
  clear g1 g2 g3 g4 h
  cases ht1 : ((p * d - q * c).tmod (a * d - b * c) == 0) <;> cases ht2 : ((a * q - b * p).tmod (a * d - b * c) == 0)
  all_goals
    go_enter Try.func11, Try.ntmps11
    go_wp2_with fail
    go_at_call 12
    refine (hck _).mono ?_
    rintro e w1 ⟨rfl, hb⟩
    have hB := hb.mono (show w.heap.size + 3 ≤ _ from by simp)
    obtain ⟨hc, hf⟩ := rules hB
    clear hb
    go_wp2_with fail
    go_at_call 18
    refine (wide_any _ _ _).mono ?_
    rintro e w2 ⟨rfl, hb⟩
    have hB2 := step_below hB (by simp) hb
    clear hB hb hc hf
    obtain ⟨hc, hf⟩ := rules hB2
    go_wp2_with fail
    go_at_call 16
    refine (cross_any _ _ _ _ _ s1 s2 s3 s4).mono ?_
    rintro e w3 ⟨rfl, hb⟩
    have hB3 := step_below hB2 (by simp) hb
    clear hB2 hb hc hf
    obtain ⟨hc, hf⟩ := rules hB3
    go_wp2_with fail
    go_at_call 16
    refine (cross_any _ _ _ _ _ s5 s6 s3 s4).mono ?_
    rintro e w4 ⟨rfl, hb⟩
    have hB4 := step_below hB3 (by simp) hb
    clear hB3 hb hc hf
    obtain ⟨hc, hf⟩ := rules hB4
    go_wp2_with fail
    first
      | (go_ret2
         exact ⟨by rw [← dvB_tmod, ht1]; rfl, ((((Below.refl _ _).alloc (Nat.le_refl _) _).alloc (by simp) _).alloc (by simp; omega) _).trans (hB4.mono (by omega))⟩)
      | (go_at_call 16
         refine (cross_any _ _ _ _ _ s1 s2 s5 s6).mono ?_
         rintro e w5 ⟨rfl, hb⟩
         have hB5 := step_below hB4 (by simp) hb
         clear hB4 hb hc hf
         go_wp2_with fail
         go_ret2
         exact ⟨by rw [← dvB_tmod, ← dvB_tmod, ht1, ht2]; rfl, ((((Below.refl _ _).alloc (Nat.le_refl _) _).alloc (by simp) _).alloc (by simp; omega) _).trans (hB5.mono (by omega))⟩)

/-- the closed fact's basis is reduced by hand -/
theorem fact_red : RedOf 5 0 3 1 5 5 := ⟨1, 2, 2, -1, ⟨-1, 2, 1, -1, by omega, by omega, by omega, by omega, by omega⟩, by omega, by omega, by omega, by omega, by omega⟩

theorem vecsErr_fact : vecsErr 5 0 3 1 = 0 := by decide

theorem latticeFact_any (w : World) :
    Calls Try.prog 6 #[] w fun e w' => e = .returned (.bool true) ∧ Below w.heap.size w w' := by
  go_enter Try.func6, Try.ntmps6
  go_wp2_with fail
  go_at_call 7
  refine (Short_good vecsErr_fact _).mono ?_
  rintro e w1 ⟨⟨A, C, rfl, hR⟩, hB⟩
  obtain ⟨rfl, rfl⟩ := hR.unique fact_red (by decide)
  clear hR
  go_wp2_with fail
  go_at_call 9
  refine (Area_good vecsErr_fact _).mono ?_
  rintro e w2 ⟨rfl, hb⟩
  have hB2 := hB.trans (hb.mono hB.size)
  clear hB hb
  go_wp2_with fail
  go_ret
  exact ⟨rfl, hB2⟩
end Go.Proofs.Ytghhccalfbgjjaa
