/- Plain law: the reference's road to the normal form: the least number takes from all others; then what lies above is reduced. No program in sight. -/
import Derived.Test.YtijlhdgagaehaaaDoorHerEu
import Derived.Test.YtijlhdgagaehaaaDoorBnd
namespace Go.Proofs.YtijlhdgagaehaaaDoor
open Go.RowKit
set_option linter.unusedVariables false
set_option linter.unusedSimpArgs false

def Wc (c : Nat) : Nat := if c = 0 then 838860800 else 1407374883553280000
def Kc (c L : Nat) : Nat := if c = 0 then 800 * 2 ^ (20 - L) else 1407374883553280000
theorem Wc_le (c : Nat) : Wc c ≤ 1407374883553280000 := by unfold Wc; split <;> omega
theorem Wc_mono {a c : Nat} (h : a ≤ c) : Wc a ≤ Wc c := by
  unfold Wc
  by_cases hc : c = 0
  · rw [if_pos hc, if_pos (by omega)]; omega
  · rw [if_neg hc]; split <;> omega
theorem Kc_le (c L : Nat) : Kc c L ≤ Wc c := by
  unfold Kc Wc
  by_cases hc : c = 0
  · rw [if_pos hc, if_pos hc]
    have : 2 ^ (20 - L) ≤ 2 ^ 20 := Nat.pow_le_pow_right (by omega) (by omega)
    omega
  · rw [if_neg hc, if_neg hc]; omega
theorem Kc_step {c L : Nat} (hc : c = 0) (h0 : 0 < L) (h1 : L ≤ 20) : Kc c (L - 1) = Kc c L + Kc c L := by
  unfold Kc
  rw [if_pos hc, if_pos hc, show 20 - (L - 1) = 20 - L + 1 by omega, Nat.pow_succ]
  omega
theorem Kc_mono {c L : Nat} (h0 : 0 < L) (h1 : c = 0 → L ≤ 20) : Kc c L ≤ Kc c (L - 1) := by
  by_cases hc : c = 0
  · rw [Kc_step hc h0 (h1 hc)]; omega
  · unfold Kc; rw [if_neg hc, if_neg hc]; omega

/-- in column c: the columns ahead are over, all pairs of rows are small -/
structure HhCore (n c K : Nat) (M0 M : Nat → Nat → Int) : Prop where
  like : Like n M0 M
  low : ∀ i j, j < c → j < i → i < n → M i j = 0
  mid : ∀ j, j < c → 0 < M j j
  old : ∀ a b, a < c → b < n → (M a b).natAbs ≤ Wc a
  wide : ∀ a b, c ≤ a → a < n → b < n → (M a b).natAbs ≤ Wc c
  pair : ∀ i k b, c ≤ i → i < n → c ≤ k → k < n → i ≠ k → b < n → (M i c).natAbs * (M k b).natAbs + (M k c).natAbs * (M i b).natAbs ≤ K
structure HhSt (n c L : Nat) (M0 M : Nat → Nat → Int) : Prop where
  core : HhCore n c (Kc c L) M0 M
  lead : ∀ a, c < a → a < n → (M a c).natAbs ≤ L
  lmax : c = 0 → L ≤ 20
theorem HhCore.congr {n c K : Nat} {M0 M N : Nat → Nat → Int} (h : HhCore n c K M0 M) (hc : c < n) (he : ∀ a b, a < n → b < n → N a b = M a b) : HhCore n c K M0 N :=
  ⟨like_to h.like he, fun i j h1 h2 h3 => by rw [he i j h3 (by omega)]; exact h.low i j h1 h2 h3, fun j hj => by rw [he j j (by omega) (by omega)]; exact h.mid j hj, fun a b h1 h2 => by rw [he a b (by omega) h2]; exact h.old a b h1 h2,
    fun a b h1 h2 h3 => by rw [he a b h2 h3]; exact h.wide a b h1 h2 h3, fun i k b h1 h2 h3 h4 h5 h6 => by rw [he i c h2 hc, he k b h4 h6, he k c h4 hc, he i b h2 h6]; exact h.pair i k b h1 h2 h3 h4 h5 h6⟩
theorem HhCore.swap {n c K p : Nat} {M0 M : Nat → Nat → Int} (h : HhCore n c K M0 M) (hc : c < n) (hp : c ≤ p) (hpn : p < n) : HhCore n c K M0 (swapR M p c) := by
  have hs : ∀ a, c ≤ a → a < n → c ≤ sw p c a ∧ sw p c a < n := fun a h1 h2 => ⟨by unfold sw; split; omega; split <;> omega, sw_lt hpn hc h2⟩
  have ho : ∀ a, a < c → sw p c a = a := fun a ha => by unfold sw; rw [if_neg (by omega), if_neg (by omega)]
  have e : ∀ a b, swapR M p c a b = M (sw p c a) b := fun a b => rfl
  refine ⟨?_, fun i j h1 h2 h3 => ?_, fun j hj => ?_, fun a b h1 h2 => ?_, fun a b h1 h2 h3 => ?_, fun i k b h1 h2 h3 h4 h5 h6 => ?_⟩
  · by_cases hpc : p = c
    · subst hpc
      rw [swapR_same]; exact h.like
    · exact h.like.trans (like_swap hpn hc hpc M)
  · rw [e]
    by_cases hic : i < c
    · rw [ho i hic]; exact h.low i j h1 h2 h3
    · obtain ⟨g1, g2⟩ := hs i (by omega) h3
      exact h.low _ j h1 (by omega) g2
  · rw [e, ho j hj]; exact h.mid j hj
  · rw [e, ho a h1]; exact h.old a b h1 h2
  · rw [e]; exact h.wide _ b (hs a h1 h2).1 (hs a h1 h2).2 h3
  · rw [e, e, e, e]
    refine h.pair _ _ b (hs i h1 h2).1 (hs i h1 h2).2 (hs k h3 h4).1 (hs k h3 h4).2 (fun he => h5 ?_) h6
    have := congrArg (sw p c) he
    rwa [sw_sw, sw_sw] at this
/-- the rows from c + 1 up to i less so many times row c -/
def elimR (M : Nat → Nat → Int) (c i a b : Nat) : Int := if c < a ∧ a < i then M a b - (M a c).tdiv (M c c) * M c b else M a b
theorem elimR_start (M : Nat → Nat → Int) (c : Nat) : elimR M c (c + 1) = M := by
  funext a b; unfold elimR; rw [if_neg (by omega)]
theorem elimR_step (M : Nat → Nat → Int) {c i : Nat} (hc : c < i) : elimR M c (i + 1) = setRow (elimR M c i) i (fun j => elimR M c i i j - (M i c).tdiv (M c c) * elimR M c i c j) := by
  funext a b
  unfold setRow
  have e1 : ∀ j, elimR M c i i j = M i j := fun j => by unfold elimR; rw [if_neg (by omega)]
  have e2 : ∀ j, elimR M c i c j = M c j := fun j => by unfold elimR; rw [if_neg (by omega)]
  by_cases ha : a = i
  · rw [if_pos ha]
    show _ = elimR M c i i b - (M i c).tdiv (M c c) * elimR M c i c b
    rw [e1, e2, ha]
    unfold elimR; rw [if_pos (by omega)]
  · rw [if_neg ha]
    unfold elimR
    by_cases h1 : c < a ∧ a < i
    · rw [if_pos h1, if_pos ⟨h1.1, by omega⟩]
    · rw [if_neg h1, if_neg (by omega)]
theorem elimR_like {n c : Nat} {M0 M : Nat → Nat → Int} (h : Like n M0 M) (hc : c < n) : ∀ d, c + 1 + d ≤ n → Like n M0 (elimR M c (c + 1 + d))
  | 0, _ => by rw [Nat.add_zero, elimR_start]; exact h
  | d + 1, hd => by
    rw [show c + 1 + (d + 1) = c + 1 + d + 1 by omega, elimR_step M (by omega)]
    exact (elimR_like h hc d (by omega)).trans (like_less (by omega) hc (by omega) _ _)
theorem HhCore.elim {n c L : Nat} {M0 M : Nat → Nat → Int} (h : HhCore n c (Kc c L) M0 M) (hn : n ≤ 3) (hc : c < n) (h0 : M c c ≠ 0) (hL : (M c c).natAbs ≤ L) (hm : c = 0 → L ≤ 20) :
    HhSt n c (L - 1) M0 (elimR M c n) ∧ ∀ a b, c < a → a < n → b < n → ((M a c).tdiv (M c c) * M c b).natAbs ≤ Wc c ∧ (M a b - (M a c).tdiv (M c c) * M c b).natAbs ≤ Wc c := by
  have hL0 : 0 < L := by omega
  have hE := fun a b (h1 : c < a) (h2 : a < n) (h3 : b < n) => eu_step (a := M a c) (b := M c c) (x := M a b) (y := M c b) (K := Kc c L) h0 (by have := h.pair c a b (Nat.le_refl c) hc (by omega) h2 (by omega) h3; omega)
  have ec : ∀ b, elimR M c n c b = M c b := fun b => by unfold elimR; rw [if_neg (by omega)]
  have eo : ∀ a b, a < c → elimR M c n a b = M a b := fun a b h => by unfold elimR; rw [if_neg (by omega)]
  have ea : ∀ a b, c < a → a < n → elimR M c n a b = M a b - (M a c).tdiv (M c c) * M c b := fun a b h1 h2 => by unfold elimR; rw [if_pos ⟨h1, h2⟩]
  have hK := Kc_le c L
  have hK1 := Kc_mono (c := c) hL0 hm
  refine ⟨⟨⟨?_, fun i j h1 h2 h3 => ?_, fun j hj => by rw [eo j j hj]; exact h.mid j hj, fun a b h1 h2 => by rw [eo a b h1]; exact h.old a b h1 h2, fun a b h1 h2 h3 => ?_, fun i k b h1 h2 h3 h4 h5 h6 => ?_⟩, fun a h1 h2 => ?_, fun hc0 => by have := hm hc0; omega⟩, fun a b h1 h2 h3 => ?_⟩
  · have := elimR_like h.like hc (n - (c + 1)) (by omega)
    rwa [show c + 1 + (n - (c + 1)) = n by omega] at this
  · by_cases hi : i < c
    · rw [eo i j hi]; exact h.low i j h1 h2 h3
    · by_cases hic : i = c
      · rw [hic, ec]; exact h.low c j h1 (by omega) hc
      · rw [ea i j (by omega) h3, h.low i j h1 h2 h3, h.low c j h1 (by omega) hc]; simp
  · by_cases hac : a = c
    · rw [hac, ec]; exact h.wide c b (Nat.le_refl c) hc h3
    · rw [ea a b (by omega) h2]
      exact Nat.le_trans (hE a b (by omega) h2 h3).2.2.1 hK
  · by_cases hic : i = c
    · subst hic
      rw [ec, ec, ea k b (by omega) h4, ea k i (by omega) h4]
      exact Nat.le_trans (hE k b (by omega) h4 h6).1 hK1
    · by_cases hkc : k = c
      · subst hkc
        rw [ec, ec, ea i b (by omega) h2, ea i k (by omega) h2, Nat.add_comm]
        exact Nat.le_trans (hE i b (by omega) h2 h6).1 hK1
      · have hc0 : c = 0 := by omega
        rw [Kc_step hc0 hL0 (hm hc0), ea i c (by omega) h2, ea k c (by omega) h4, ea i b (by omega) h2, ea k b (by omega) h4]
        obtain ⟨i1, _, _, i4⟩ := hE i b (by omega) h2 h6
        obtain ⟨k1, _, _, k4⟩ := hE k b (by omega) h4 h6
        obtain ⟨_, _, _, i4c⟩ := hE i c (by omega) h2 hc
        obtain ⟨_, _, _, k4c⟩ := hE k c (by omega) h4 hc
        refine Nat.add_le_add ?_ ?_
        · exact Nat.le_trans (Nat.mul_le_mul_right _ (Nat.le_of_lt i4c)) (Nat.le_trans (Nat.le_add_right _ _) k1)
        · exact Nat.le_trans (Nat.mul_le_mul_right _ (Nat.le_of_lt k4c)) (Nat.le_trans (Nat.le_add_right _ _) i1)
  · rw [ea a c h1 h2]
    have := (hE a c h1 h2 hc).2.2.2
    omega
  · obtain ⟨_, e2, e3, _⟩ := hE a b h1 h2 h3
    exact ⟨Nat.le_trans e2 hK, Nat.le_trans e3 hK⟩

/-- the columns ahead of c are over -/
structure HhGo (n c : Nat) (M0 M : Nat → Nat → Int) : Prop where
  like : Like n M0 M
  low : ∀ i j, j < c → j < i → i < n → M i j = 0
  mid : ∀ j, j < c → 0 < M j j
  old : ∀ a b, a < c → b < n → (M a b).natAbs ≤ Wc a
  all : ∀ a b, c ≤ a → a < n → b < n → (M a b).natAbs ≤ if c = 0 then 20 else Wc (c - 1)
def L0 (c : Nat) : Nat := if c = 0 then 20 else 1407374883553280000
theorem HhGo.start {n c : Nat} {M0 M : Nat → Nat → Int} (h : HhGo n c M0 M) (hn : n ≤ 3) (hc : c < n) : HhSt n c (L0 c) M0 M := by
  have hx : c = 0 ∨ c = 1 ∨ c = 2 := by omega
  refine ⟨⟨h.like, h.low, h.mid, h.old, fun a b h1 h2 h3 => ?_, fun i k b h1 h2 h3 h4 h5 h6 => ?_⟩, fun a h1 h2 => ?_, fun h => by unfold L0; rw [if_pos h]; omega⟩
  · have := h.all a b h1 h2 h3
    rcases hx with rfl | rfl | rfl
    · rw [if_pos rfl] at this; unfold Wc; rw [if_pos rfl]; omega
    · exact Nat.le_trans this (by decide)
    · exact Nat.le_trans this (by decide)
  · have a1 := h.all i c h1 h2 hc
    have a2 := h.all k b h3 h4 h6
    have a3 := h.all k c h3 h4 hc
    have a4 := h.all i b h1 h2 h6
    rcases hx with rfl | rfl | rfl
    · rw [if_pos rfl] at a1 a2 a3 a4
      exact Nat.le_trans (Nat.add_le_add (natAbs_mul_le a1 a2) (natAbs_mul_le a3 a4)) (by decide)
    · exact Nat.le_trans (Nat.add_le_add (natAbs_mul_le a1 a2) (natAbs_mul_le a3 a4)) (by decide)
    · omega
  · have := h.all a c (by omega) h2 hc
    rcases hx with rfl | rfl | rfl
    · exact this
    · exact Nat.le_trans this (by decide)
    · exact Nat.le_trans this (by decide)
/-- one row is left with a number but 0: it is made positive -/
theorem HhCore.pos {n c K : Nat} {M0 M : Nat → Nat → Int} (h : HhCore n c K M0 M) (hc : c < n) (hz : ∀ a, c < a → a < n → M a c = 0) (hp : 0 < M c c) : HhGo n (c + 1) M0 M := by
  refine ⟨h.like, fun i j h1 h2 h3 => ?_, fun j hj => ?_, fun a b h1 h2 => ?_, fun a b h1 h2 h3 => ?_⟩
  · by_cases hj : j = c
    · rw [hj]; exact hz i (by omega) h3
    · exact h.low i j (by omega) h2 h3
  · by_cases hjc : j = c
    · rw [hjc]; exact hp
    · exact h.mid j (by omega)
  · by_cases hac : a = c
    · rw [hac]; exact h.wide c b (Nat.le_refl c) hc h2
    · exact h.old a b (by omega) h2
  · rw [if_neg (by omega), show c + 1 - 1 = c by omega]; exact h.wide a b (by omega) h2 h3
theorem HhCore.neg {n c K : Nat} {M0 M : Nat → Nat → Int} (h : HhCore n c K M0 M) (hc : c < n) (hz : ∀ a, c < a → a < n → M a c = 0) (hp : M c c < 0) : HhGo n (c + 1) M0 (setRow M c (fun j => -1 * M c j)) := by
  have e1 : ∀ b, setRow M c (fun j => -1 * M c j) c b = -1 * M c b := fun b => if_pos rfl
  have e2 : ∀ a b, a ≠ c → setRow M c (fun j => -1 * M c j) a b = M a b := fun a b h => if_neg h
  refine ⟨h.like.trans (like_neg hc M), fun i j h1 h2 h3 => ?_, fun j hj => ?_, fun a b h1 h2 => ?_, fun a b h1 h2 h3 => ?_⟩
  · by_cases hic : i = c
    · rw [hic, e1, h.low c j (by omega) (by omega) hc]; rfl
    · rw [e2 i j hic]
      by_cases hj : j = c
      · rw [hj]; exact hz i (by omega) h3
      · exact h.low i j (by omega) h2 h3
  · by_cases hjc : j = c
    · rw [hjc, e1]; omega
    · rw [e2 j j hjc]; exact h.mid j (by omega)
  · by_cases hac : a = c
    · rw [hac, e1]
      have := h.wide c b (Nat.le_refl c) hc h2
      omega
    · rw [e2 a b hac]; exact h.old a b (by omega) h2
  · rw [if_neg (by omega), show c + 1 - 1 = c by omega, e2 a b (by omega)]; exact h.wide a b (by omega) h2 h3
theorem HhCore.some {n c K : Nat} {M0 M : Nat → Nat → Int} (h : HhCore n c K M0 M) (hc : c < n) (h0 : G (-1) n M0 ≠ 0) (hz : ∀ a, c ≤ a → a < n → M a c = 0) : False := by
  have h1 := det_stop c n M hc (fun i j h1 h2 h3 => by
    by_cases hj : j = c
    · rw [hj]; exact hz i (by omega) h3
    · exact h.low i j (by omega) h2 h3) (hz c (Nat.le_refl c) hc)
  rcases h.like.2 with h2 | h2 <;> omega
theorem HhGo.first {n : Nat} {M : Nat → Nat → Int} (h : ∀ a b, a < n → b < n → (M a b).natAbs ≤ 20) : HhGo n 0 M M :=
  ⟨Like.refl n M, fun i j hj => by omega, fun j hj => by omega, fun a b ha => by omega, fun a b _ h2 h3 => by rw [if_pos rfl]; exact h a b h2 h3⟩
theorem HhGo.congr {n c : Nat} {M0 M N : Nat → Nat → Int} (h : HhGo n c M0 M) (hc : c ≤ n) (he : ∀ a b, a < n → b < n → N a b = M a b) : HhGo n c M0 N :=
  ⟨like_to h.like he, fun i j h1 h2 h3 => by rw [he i j h3 (by omega)]; exact h.low i j h1 h2 h3, fun j hj => by rw [he j j (by omega) (by omega)]; exact h.mid j hj, fun a b h1 h2 => by rw [he a b (by omega) h2]; exact h.old a b h1 h2, fun a b h1 h2 h3 => by rw [he a b h2 h3]; exact h.all a b h1 h2 h3⟩

/-- which row has the least number but 0, of those from c up to i; how many have one -/
structure BestTo (M : Nat → Nat → Int) (c i : Nat) (best many : Int) : Prop where
  none : many = 0 → best = -1 ∧ ∀ a, c ≤ a → a < i → M a c = 0
  one : many ≠ 0 → ∃ b : Nat, best = b ∧ c ≤ b ∧ b < i ∧ M b c ≠ 0 ∧ (∀ a, c ≤ a → a < i → M a c ≠ 0 → (M b c).natAbs ≤ (M a c).natAbs) ∧ (many = 1 → ∀ a, c ≤ a → a < i → a ≠ b → M a c = 0) ∧ (many ≠ 1 → ∃ a, c ≤ a ∧ a < i ∧ a ≠ b ∧ M a c ≠ 0)
  ge : 0 ≤ many
  le : many ≤ i
theorem BestTo.start (M : Nat → Nat → Int) (c : Nat) : BestTo M c c (-1) 0 := ⟨fun _ => ⟨rfl, fun a h1 h2 => by omega⟩, fun h => absurd rfl h, Int.le_refl _, by omega⟩
theorem BestTo.skip {M : Nat → Nat → Int} {c i : Nat} {best many : Int} (h : BestTo M c i best many) (h0 : M i c = 0) : BestTo M c (i + 1) best many := by
  have key : ∀ a, a < i + 1 → a < i ∨ a = i := by omega
  refine ⟨fun hm => ⟨(h.none hm).1, fun a h1 h2 => ?_⟩, fun hm => ?_, h.ge, by have := h.le; omega⟩
  · rcases key a h2 with g | g
    · exact (h.none hm).2 a h1 g
    · rw [g]; exact h0
  · obtain ⟨b, h1, h2, h3, h4, h5, h6, h7⟩ := h.one hm
    refine ⟨b, h1, h2, by omega, h4, fun a g1 g2 g3 => ?_, fun hm a g1 g2 g3 => ?_, fun hm => ?_⟩
    · rcases key a g2 with g | g
      · exact h5 a g1 g g3
      · rw [g] at g3; exact absurd h0 g3
    · rcases key a g2 with g | g
      · exact h6 hm a g1 g g3
      · rw [g]; exact h0
    · obtain ⟨a, k1, k2, k3, k4⟩ := h7 hm
      exact ⟨a, k1, by omega, k3, k4⟩
theorem BestTo.first {M : Nat → Nat → Int} {c i : Nat} {best : Int} (h : BestTo M c i best 0) (hc : c ≤ i) (h0 : M i c ≠ 0) : BestTo M c (i + 1) i 1 := by
  have hz := (h.none rfl).2
  refine ⟨fun hm => by omega, fun _ => ⟨i, rfl, hc, by omega, h0, fun a g1 g2 g3 => ?_, fun _ a g1 g2 g3 => hz a g1 (by omega), fun hm => absurd rfl hm⟩, by omega, by omega⟩
  by_cases hai : a = i
  · rw [hai]; exact Nat.le_refl _
  · exact absurd (hz a g1 (by omega)) g3
theorem BestTo.less {M : Nat → Nat → Int} {c i b : Nat} {many : Int} (h : BestTo M c i (b : Int) many) (hm : many ≠ 0) (hc : c ≤ i) (h0 : M i c ≠ 0) (hl : (M i c).natAbs < (M b c).natAbs) : BestTo M c (i + 1) i (many + 1) := by
  obtain ⟨b', h1, h2, h3, h4, h5, h6, h7⟩ := h.one hm
  obtain rfl : b = b' := by omega
  have hg := h.ge
  have hle := h.le
  refine ⟨fun hm => by omega, fun _ => ⟨i, rfl, hc, Nat.lt_succ_self i, h0, fun a g1 g2 g3 => ?_, fun hm => absurd hm (by omega), fun _ => ⟨b, h2, Nat.lt_succ_of_lt h3, Nat.ne_of_lt h3, h4⟩⟩, by omega, by omega⟩
  by_cases hai : a = i
  · rw [hai]; exact Nat.le_refl _
  · have := h5 a g1 (by omega) g3; omega
theorem BestTo.more {M : Nat → Nat → Int} {c i b : Nat} {many : Int} (h : BestTo M c i (b : Int) many) (hm : many ≠ 0) (hc : c ≤ i) (h0 : M i c ≠ 0) (hl : ¬ (M i c).natAbs < (M b c).natAbs) : BestTo M c (i + 1) b (many + 1) := by
  obtain ⟨b', h1, h2, h3, h4, h5, h6, h7⟩ := h.one hm
  obtain rfl : b = b' := by omega
  have hg := h.ge
  have hle := h.le
  refine ⟨fun hm => by omega, fun _ => ⟨b, rfl, h2, Nat.lt_succ_of_lt h3, h4, fun a g1 g2 g3 => ?_, fun hm => absurd hm (by omega), fun _ => ⟨i, hc, Nat.lt_succ_self i, (Nat.ne_of_lt h3).symm, h0⟩⟩, by omega, by omega⟩
  by_cases hai : a = i
  · rw [hai]; omega
  · exact h5 a g1 (by omega) g3
/-- where more than one row has a number but 0, the least is not above what is known -/
theorem HhSt.least {n c L b : Nat} {M0 M : Nat → Nat → Int} (h : HhSt n c L M0 M) (hb : c ≤ b) (hbn : b < n) (hmin : ∀ a, c ≤ a → a < n → M a c ≠ 0 → (M b c).natAbs ≤ (M a c).natAbs) (hex : ∃ a, c ≤ a ∧ a < n ∧ a ≠ b ∧ M a c ≠ 0) : (M b c).natAbs ≤ L := by
  obtain ⟨a, h1, h2, h3, h4⟩ := hex
  by_cases hac : a = c
  · exact h.lead b (by omega) hbn
  · exact Nat.le_trans (hmin a h1 h2 h4) (h.lead a (by omega) h2)
end Go.Proofs.YtijlhdgagaehaaaDoor
