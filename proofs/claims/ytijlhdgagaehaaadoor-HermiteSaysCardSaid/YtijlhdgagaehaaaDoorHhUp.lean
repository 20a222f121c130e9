/- Plain law: the reference's second part: what lies above the middle is reduced. No program in sight. -/
import Derived.Test.YtijlhdgagaehaaaDoorHhMath
namespace Go.Proofs.YtijlhdgagaehaaaDoor
open Go.RowKit
set_option linter.unusedVariables false
set_option linter.unusedSimpArgs false

/-- the rows from i on are reduced -/
structure HhUp (n i : Nat) (M0 M : Nat → Nat → Int) : Prop where
  like : Like n M0 M
  low : ∀ a b, b < n → b < a → a < n → M a b = 0
  mid : ∀ j, j < n → 0 < M j j
  red : ∀ a b, i ≤ a → a < b → b < n → 0 ≤ M a b ∧ M a b < M b b
  bnd : ∀ a b, a < i → b < n → (M a b).natAbs ≤ Wc a
def rbH (i c : Nat) : Nat := if c = i + 1 then Wc i else 50000000000000
/-- row i is reduced up to c -/
structure HhRow (n i c : Nat) (M0 M : Nat → Nat → Int) : Prop where
  like : Like n M0 M
  low : ∀ a b, b < n → b < a → a < n → M a b = 0
  mid : ∀ j, j < n → 0 < M j j
  red : ∀ a b, i < a → a < b → b < n → 0 ≤ M a b ∧ M a b < M b b
  bnd : ∀ a b, a < i → b < n → (M a b).natAbs ≤ Wc a
  part : ∀ b, i < b → b < c → 0 ≤ M i b ∧ M i b < M b b
  row : ∀ b, b < n → (M i b).natAbs ≤ rbH i c
theorem HhGo.up {n : Nat} {M0 M : Nat → Nat → Int} (h : HhGo n n M0 M) (h0 : 0 < n) : HhUp n (n - 1) M0 M :=
  ⟨h.like, fun a b h1 h2 h3 => h.low a b h1 h2 h3, h.mid, fun a b h1 h2 h3 => by omega, fun a b h1 h2 => h.old a b (by omega) h2⟩
theorem HhUp.row {n i : Nat} {M0 M : Nat → Nat → Int} (h : HhUp n (i + 1) M0 M) (hi : i + 1 < n) : HhRow n i (i + 1) M0 M :=
  ⟨h.like, h.low, h.mid, fun a b h1 h2 h3 => h.red a b (by omega) h2 h3, fun a b h1 h2 => h.bnd a b (by omega) h2, fun b h1 h2 => by omega, fun b hb => by unfold rbH; rw [if_pos rfl]; exact h.bnd i b (by omega) hb⟩
theorem HhRow.over {n i : Nat} {M0 M : Nat → Nat → Int} (h : HhRow n i n M0 M) : HhUp n i M0 M :=
  ⟨h.like, h.low, h.mid, fun a b h1 h2 h3 => by
    by_cases ha : a = i
    · rw [ha] at h2 ⊢; exact h.part b h2 h3
    · exact h.red a b (by omega) h2 h3, h.bnd⟩
theorem HhUp.form {n : Nat} {M0 M : Nat → Nat → Int} (h : HhUp n 0 M0 M) : FormOf n M0 M :=
  ⟨h.like, ⟨fun i j h1 h2 h3 => h.low i j h1 h2 h3, h.mid, fun i j h1 h2 => h.red i j (by omega) h1 h2⟩⟩
theorem HhRow.congr {n i c : Nat} {M0 M N : Nat → Nat → Int} (h : HhRow n i c M0 M) (hi : i < n) (hc : c ≤ n) (he : ∀ a b, a < n → b < n → N a b = M a b) : HhRow n i c M0 N :=
  ⟨like_to h.like he, fun a b h1 h2 h3 => by rw [he a b h3 h1]; exact h.low a b h1 h2 h3, fun j hj => by rw [he j j hj hj]; exact h.mid j hj, fun a b h1 h2 h3 => by rw [he a b (by omega) h3, he b b h3 h3]; exact h.red a b h1 h2 h3,
    fun a b h1 h2 => by rw [he a b (by omega) h2]; exact h.bnd a b h1 h2, fun b h1 h2 => by rw [he i b hi (by omega), he b b (by omega) (by omega)]; exact h.part b h1 h2, fun b hb => by rw [he i b hi hb]; exact h.row b hb⟩
theorem diag_bd {n : Nat} {M0 M : Nat → Nat → Int} (hl : Like n M0 M) (low : ∀ a b, b < n → b < a → a < n → M a b = 0) (mid : ∀ j, j < n → 0 < M j j) (hG : (G (-1) n M0).natAbs ≤ 48000) {j : Nat} (hj : j < n) : M j j ≤ 48000 := by
  have h1 := det_diag n M (fun a b h1 h2 => low a b (by omega) h1 h2)
  have h2 := diag_le n mid j hj
  rcases hl.2 with h3 | h3 <;> omega
theorem HhRow.next {n i c : Nat} {M0 M : Nat → Nat → Int} (h : HhRow n i c M0 M) (hn : n ≤ 3) (hi : i < c) (hc : c < n) (hG : (G (-1) n M0).natAbs ≤ 48000) :
    HhRow n i (c + 1) M0 (setRow M i (fun j => M i j - M i c / M c c * M c j)) ∧ ∀ b, b < n → (M i c / M c c * M c b).natAbs ≤ 1500000000000000000 ∧ (M i b - M i c / M c c * M c b).natAbs ≤ 50000000000000 := by
  have hmid := h.mid c hc
  have hmd := diag_bd h.like h.low h.mid hG hc
  obtain ⟨f1, f2, f3, f4⟩ := floor_abs (x := M i c) hmid
  have hx := h.row c hc
  have hrow := h.row
  have hcases : (i = 0 ∧ c = 1 ∧ rbH i c = 838860800) ∨ (i = 0 ∧ c = 2 ∧ n = 3 ∧ rbH i c = 50000000000000) ∨ (i = 1 ∧ c = 2 ∧ n = 3 ∧ rbH i c = 1407374883553280000) := by
    have : (i = 0 ∧ c = 1) ∨ (i = 0 ∧ c = 2) ∨ (i = 1 ∧ c = 2) := by omega
    rcases this with ⟨rfl, rfl⟩ | ⟨rfl, rfl⟩ | ⟨rfl, rfl⟩
    · left; exact ⟨rfl, rfl, rfl⟩
    · right; left; exact ⟨rfl, rfl, by omega, rfl⟩
    · right; right; exact ⟨rfl, rfl, by omega, rfl⟩
  obtain ⟨t, ht⟩ : ∃ t, t = M i c / M c c := ⟨_, rfl⟩
  rw [← ht] at f1 f2 f3 f4 ⊢
  have e1 : ∀ b, setRow M i (fun j => M i j - t * M c j) i b = M i b - t * M c b := fun b => if_pos rfl
  have e2 : ∀ a b, a ≠ i → setRow M i (fun j => M i j - t * M c j) a b = M a b := fun a b h => if_neg h
  have hz : ∀ b, b < c → M c b = 0 := fun b hb => h.low c b (by omega) hb hc
  have hb : ∀ b, b < n → (t * M c b).natAbs ≤ 1500000000000000000 ∧ (M i b - t * M c b).natAbs ≤ 50000000000000 := by
    intro b hbn
    have hrb := hrow b hbn
    rcases Nat.lt_trichotomy b c with h1 | h1 | h1
    · rw [hz b h1, Int.mul_zero, Int.sub_zero]
      refine ⟨by simp, ?_⟩
      rcases hcases with ⟨a1, a2, a3⟩ | ⟨a1, a2, a3, a4⟩ | ⟨a1, a2, a3, a4⟩
      · rw [a3] at hrb; omega
      · rw [a4] at hrb; exact hrb
      · subst a1
        by_cases hb0 : b = 0
        · rw [hb0, h.low 1 0 (by omega) (by omega) (by omega)]; simp
        · obtain rfl : b = 1 := by omega
          have := diag_bd h.like h.low h.mid hG (j := 1) (by omega)
          have := h.mid 1 (by omega)
          omega
    · rw [h1]
      rcases hcases with ⟨a1, a2, a3⟩ | ⟨a1, a2, a3, a4⟩ | ⟨a1, a2, a3, a4⟩
      · rw [a3] at hx; omega
      · rw [a4] at hx; omega
      · rw [a4] at hx; omega
    · rcases hcases with ⟨a1, a2, a3⟩ | ⟨a1, a2, a3, a4⟩ | ⟨a1, a2, a3, a4⟩
      · rw [a3] at hx hrb
        have hr := h.red c b (by omega) h1 hbn
        have hdb := diag_bd h.like h.low h.mid hG hbn
        have h6 := natAbs_mul_le (x := t) (y := M c b) (a := 838860800) (b := 48000) (by omega) (by omega)
        rw [← Int.natAbs_mul] at h6
        omega
      · omega
      · omega
  have ed : ∀ j, j < n → setRow M i (fun j => M i j - t * M c j) j j = M j j := by
    intro j hj
    by_cases hji : j = i
    · rw [hji, e1, hz i hi, Int.mul_zero, Int.sub_zero]
    · exact e2 j j hji
  refine ⟨⟨h.like.trans (like_less (by omega) hc (by omega) M t), fun a b h1 h2 h3 => ?_, fun j hj => by rw [ed j hj]; exact h.mid j hj, fun a b h1 h2 h3 => by rw [ed b h3, e2 a b (by omega)]; exact h.red a b h1 h2 h3, fun a b h1 h2 => by rw [e2 a b (by omega)]; exact h.bnd a b h1 h2, fun b h1 h2 => ?_, fun b hb' => ?_⟩, hb⟩
  · by_cases hai : a = i
    · rw [hai, e1, h.low i b h1 (by omega) (by omega), hz b (by omega)]; simp
    · rw [e2 a b hai]; exact h.low a b h1 h2 h3
  · rw [e1, ed b (by omega)]
    by_cases hbc : b = c
    · rw [hbc]; exact ⟨f3, f4⟩
    · rw [hz b (by omega), Int.mul_zero, Int.sub_zero]; exact h.part b h1 (by omega)
  · rw [e1]
    unfold rbH
    rw [if_neg (by omega)]
    exact (hb b hb').2
/-- the floor of a fraction, as the reference reckons it -/
theorem floor_neg {a b : Int} (hb : 0 < b) (ha : a < 0) : -((b - 1 - a).tdiv b) = a / b := by
  rw [Int.tdiv_eq_ediv_of_nonneg (by omega)]
  have h1 := Int.emod_add_mul_ediv (b - 1 - a) b
  have h2 := Int.emod_nonneg (b - 1 - a) (show b ≠ 0 by omega)
  have h3 := Int.emod_lt_of_pos (b - 1 - a) hb
  obtain ⟨q, hq⟩ : ∃ q, q = (b - 1 - a) / b := ⟨_, rfl⟩
  rw [← hq] at h1 ⊢
  have h4 : a = -q * b + (b - 1 - (b - 1 - a) % b) := by rw [Int.neg_mul, Int.mul_comm q b]; omega
  have h5 : a / b = -q := by
    rw [h4, Int.add_comm, Int.add_mul_ediv_right _ _ (by omega), Int.ediv_eq_zero_of_lt (by omega) (by omega), Int.zero_add]
  exact h5.symm
end Go.Proofs.YtijlhdgagaehaaaDoor
