/- Plain law: elimination in the prime field of 9973. No program in sight. -/
import Derived.Test.YtghgekimeglogaaDoorHerMath
import Derived.Test.YtghgekimeglogaaDoorRowsLaw
import Derived.Test.YtghgekimeglogaaDoorPut
namespace Go.Proofs.YtghgekimeglogaaDoor
open Go.RowKit
set_option linter.unusedVariables false
set_option linter.unusedSimpArgs false

theorem dvd_sumTo {d : Int} {f : Nat → Int} : ∀ n, (∀ i, i < n → d ∣ f i) → d ∣ sumTo f n
  | 0, _ => Int.dvd_zero _
  | n + 1, h => by rw [sumTo]; exact Int.dvd_add (dvd_sumTo n fun i hi => h i (by omega)) (h n (by omega))
theorem G_mod (s d : Int) (n : Nat) : ∀ {M N : Nat → Nat → Int}, (∀ i j, i < n → j < n → d ∣ M i j - N i j) → d ∣ G s n M - G s n N := by
  induction n with
  | zero => intro M N _; simp [G]
  | succ n ih =>
    intro M N h
    rw [G, G, ← sumTo_sub]
    refine dvd_sumTo _ fun j hj => ?_
    have h1 := h 0 j (by omega) hj
    have h2 := ih (M := minor M 0 j) (N := minor N 0 j) (fun a b ha hb => h _ _ (by unfold sk; split <;> omega) (by unfold sk; split <;> omega))
    obtain ⟨u, hu⟩ := h1
    obtain ⟨v, hv⟩ := h2
    refine ⟨pw s j * (u * G s n (minor M 0 j) + N 0 j * v), ?_⟩
    have e1 : M 0 j = N 0 j + d * u := by omega
    have e2 : G s n (minor M 0 j) = G s n (minor N 0 j) + d * v := by omega
    rw [e1, e2]
    grind
def subM (c : Nat) (M : Nat → Nat → Int) : Nat → Nat → Int := fun a b => M (c + a) (c + b)
theorem G_first0 (n : Nat) (M : Nat → Nat → Int) (h : ∀ i, 0 < i → i < n + 1 → M i 0 = 0) : G (-1) (n + 1) M = M 0 0 * G (-1) n (fun a b => M (a + 1) (b + 1)) := by
  rw [G_col0, sum_one (n + 1) 0 (by omega) _ (fun k hk h0 => by rw [h k (by omega) hk]; simp)]
  have e : minor M 0 0 = fun a b => M (a + 1) (b + 1) := by funext a b; simp [minor, sk]
  rw [e]
  simp [pw]
theorem G_col_zero (n : Nat) (M : Nat → Nat → Int) (h : ∀ i, i < n + 1 → M i 0 = 0) : G (-1) (n + 1) M = 0 := by
  rw [G_first0 n M (fun i _ hi => h i hi), h 0 (by omega), Int.zero_mul]

def powOk (a : Nat) : Bool := a == 0 || decide (9973 ≤ a) || a * (a ^ 9971 % 9973) % 9973 == 1
def chkP (lo : Nat) : Nat → Bool
  | 0 => powOk lo
  | k + 1 => chkP lo k && chkP (lo + 2 ^ k) k
theorem chkP_all (k : Nat) : ∀ lo, chkP lo k = true → ∀ a, lo ≤ a → a < lo + 2 ^ k → powOk a = true := by
  induction k with
  | zero => intro lo h a h1 h2; have : a = lo := by simp at h2; omega
            rw [this]; exact h
  | succ k ih =>
    intro lo h a h1 h2
    rw [chkP, Bool.and_eq_true] at h
    by_cases h3 : a < lo + 2 ^ k
    · exact ih lo h.1 a h1 h3
    · exact ih _ h.2 a (by omega) (by rw [Nat.pow_succ] at h2; omega)
theorem chkP_true : chkP 0 14 = true := by decide +kernel
theorem over_ok {a : Nat} (h0 : 0 < a) (h1 : a < 9973) : a * (a ^ 9971 % 9973) % 9973 = 1 := by
  have := chkP_all 14 0 chkP_true a (by omega) (by omega)
  unfold powOk at this
  rw [Bool.or_eq_true, Bool.or_eq_true] at this
  rcases this with (h | h) | h
  · have := eq_of_beq h; omega
  · have := of_decide_eq_true h; omega
  · exact eq_of_beq h

structure DSt (D : Int) (n c : Nat) (out : Int) (T : List (List Int)) : Prop where
  rng : ∀ i j, i < n → j < n → 0 ≤ fn T i j ∧ fn T i j < 9973
  o0 : 0 ≤ out
  o1 : out < 9973
  val : (9973 : Int) ∣ out * G (-1) (n - c) (subM c (fn T)) - D
theorem DSt.start {n : Nat} {rows : List (List Int)} (h : ∀ i j, i < n → j < n → 0 ≤ fn rows i j ∧ fn rows i j < 9973) : DSt (G (-1) n (fn rows)) n 0 1 rows := by
  refine ⟨h, by omega, by omega, ?_⟩
  have e : subM 0 (fn rows) = fn rows := by funext a b; simp [subM]
  rw [e]
  simp
theorem DSt.fin {D : Int} {n : Nat} {out : Int} {T : List (List Int)} (h : DSt D n n out T) : out = D % 9973 := by
  have hv := h.val
  rw [Nat.sub_self, G, Int.mul_one] at hv
  have h0 := h.o0
  have h1 := h.o1
  omega
theorem DSt.stop {D : Int} {n c : Nat} {out : Int} {T : List (List Int)} (h : DSt D n c out T) (hc : c < n) (hz : ∀ k, c ≤ k → k < n → fn T k c = 0) : D % 9973 = 0 := by
  have hv := h.val
  obtain ⟨m, hm⟩ : ∃ m, n - c = m + 1 := ⟨n - c - 1, by omega⟩
  rw [hm, G_col_zero m _ (fun i hi => hz (c + i) (by omega) (by omega)), Int.mul_zero] at hv
  omega
theorem DSt.swap {D : Int} {n c k : Nat} {out : Int} {T : List (List Int)} (h : DSt D n c out T) (hs : Sq n T) (hc : c < n) (hk : c < k) (hk' : k < n) : DSt D n c ((-out) % 9973) (swapL T c k) := by
  have hsw : ∀ a, a < n → sw c k a < n := fun a ha => sw_lt hc hk' ha
  refine ⟨fun i j hi hj => by rw [fn_swapL hs hc hk']; exact h.rng _ _ (hsw i hi) hj, by omega, by omega, ?_⟩
  have e : subM c (fn (swapL T c k)) = swapR (subM c (fn T)) 0 (k - c) := by
    funext a b
    show fn (swapL T c k) (c + a) (c + b) = fn T (c + (if a = 0 then k - c else if a = k - c then 0 else a)) (c + b)
    rw [fn_swapL hs hc hk']
    unfold sw
    by_cases h1 : a = 0
    · subst h1; rw [if_pos (by omega), if_pos rfl]; congr 1; omega
    · rw [if_neg (show ¬ c + a = c by omega), if_neg h1]
      by_cases h2 : a = k - c
      · rw [if_pos (show c + a = k by omega), if_pos h2]; congr 1
      · rw [if_neg (show ¬ c + a = k by omega), if_neg h2]
  rw [e, G_swap' (-1) (by decide) (n - c) 0 (k - c) _ (by omega) (by omega) (by omega)]
  have hv := h.val
  generalize G (-1) (n - c) (subM c (fn T)) = g at *
  obtain ⟨q, hq⟩ : ∃ q, (-out) % 9973 = -out + 9973 * q := ⟨-((-out) / 9973), by omega⟩
  rw [hq]
  obtain ⟨t, ht⟩ := hv
  exact ⟨t - q * g, by grind⟩

/-- the rows from c + 1 to k are done -/
structure EIn (D : Int) (n c k : Nat) (out piv : Int) (T : List (List Int)) : Prop where
  rng : ∀ i j, i < n → j < n → 0 ≤ fn T i j ∧ fn T i j < 9973
  o0 : 0 ≤ out
  o1 : out < 9973
  val : (9973 : Int) ∣ out * G (-1) (n - c) (subM c (fn T)) - D
  top : fn T c c = piv
  zero : ∀ i, c < i → i < k → fn T i c = 0
theorem EIn.start {D : Int} {n c : Nat} {out : Int} {T : List (List Int)} (h : DSt D n c out T) : EIn D n c (c + 1) out (fn T c c) T := ⟨h.rng, h.o0, h.o1, h.val, rfl, fun i h1 h2 => by omega⟩
theorem EIn.next {D : Int} {n c : Nat} {out piv : Int} {T : List (List Int)} (h : EIn D n c n out piv T) (hc : c < n) : DSt D n (c + 1) ((out * piv) % 9973) T := by
  refine ⟨h.rng, by omega, by omega, ?_⟩
  have hv := h.val
  obtain ⟨m, hm⟩ : ∃ m, n - c = m + 1 := ⟨n - c - 1, by omega⟩
  rw [hm, G_first0 m _ (fun i h0 hi => by show fn T (c + i) (c + 0) = 0; exact h.zero (c + i) (by omega) (by omega))] at hv
  have e1 : subM c (fn T) 0 0 = piv := h.top
  have e2 : (fun a b => subM c (fn T) (a + 1) (b + 1)) = subM (c + 1) (fn T) := by
    funext a b
    show fn T (c + (a + 1)) (c + (b + 1)) = fn T (c + 1 + a) (c + 1 + b)
    congr 1 <;> omega
  rw [e1, e2] at hv
  rw [show n - (c + 1) = m by omega]
  generalize G (-1) m (subM (c + 1) (fn T)) = g at *
  obtain ⟨q, hq⟩ : ∃ q, (out * piv) % 9973 = out * piv + 9973 * q := ⟨-((out * piv) / 9973), by omega⟩
  rw [hq]
  obtain ⟨t, ht⟩ := hv
  exact ⟨t + q * g, by grind⟩
/-- row k as far as column j -/
def LIn (T T' : List (List Int)) (n c k : Nat) (by_ : Int) (j : Nat) : Prop := ∀ a b, a < n → b < n → fn T' a b = if a = k ∧ b < j then (fn T k b - by_ * fn T c b) % 9973 else fn T a b
theorem LIn.start {T : List (List Int)} {n c k : Nat} {t : Int} : LIn T T n c k t 0 := fun a b _ _ => by rw [if_neg (by omega)]
theorem LIn.here {T T' : List (List Int)} {n c k : Nat} {t : Int} {j : Nat} (h : LIn T T' n c k t j) {a : Nat} (ha : a < n) (hj : j < n) : fn T' a j = fn T a j := by rw [h a j ha hj, if_neg (by omega)]
theorem LIn.other {T T' : List (List Int)} {n c k : Nat} {t : Int} {j : Nat} (h : LIn T T' n c k t j) {a b : Nat} (ha : a < n) (hb : b < n) (hak : a ≠ k) : fn T' a b = fn T a b := by rw [h a b ha hb, if_neg (fun h => hak h.1)]
theorem LIn.next {T T' : List (List Int)} {n c k : Nat} {t : Int} {j : Nat} (h : LIn T T' n c k t j) (hs : Sq n T') (hk : k < n) (hj : j < n) (x : Int) (hx : x = (fn T k j - t * fn T c j) % 9973) : LIn T (putE T' k j x) n c k t (j + 1) := by
  intro a b ha hb
  rw [fn_put hs hk hj]
  by_cases h1 : a = k ∧ b = j
  · obtain ⟨rfl, rfl⟩ := h1
    rw [if_pos ⟨rfl, rfl⟩, if_pos ⟨rfl, by omega⟩, hx]
  · rw [if_neg h1, h a b ha hb]
    by_cases h2 : a = k ∧ b < j
    · rw [if_pos h2, if_pos ⟨h2.1, by omega⟩]
    · rw [if_neg h2, if_neg (by omega)]
theorem EIn.row {D : Int} {n c k : Nat} {out piv t : Int} {T T' : List (List Int)} (h : EIn D n c k out piv T) (hl : LIn T T' n c k t n) (hc : c < k) (hk : k < n) (ht : (9973 : Int) ∣ fn T k c - t * piv) : EIn D n c (k + 1) out piv T' := by
  refine ⟨fun i j hi hj => ?_, h.o0, h.o1, ?_, ?_, fun i h1 h2 => ?_⟩
  · rw [hl i j hi hj]
    split
    · omega
    · exact h.rng i j hi hj
  · have hv := h.val
    have e := G_mod (-1) 9973 (n - c) (M := subM c (fn T')) (N := setRow (subM c (fn T)) (k - c) (fun b => subM c (fn T) (k - c) b + (-t) * subM c (fn T) 0 b)) (fun a b ha hb => by
      show (9973 : Int) ∣ fn T' (c + a) (c + b) - _
      rw [hl (c + a) (c + b) (by omega) (by omega)]
      unfold setRow subM
      by_cases h1 : a = k - c
      · rw [if_pos ⟨by omega, by omega⟩, if_pos h1, show c + (k - c) = k by omega, Nat.add_zero]
        show (9973 : Int) ∣ (fn T k (c + b) - t * fn T c (c + b)) % 9973 - (fn T k (c + b) + -t * fn T c (c + b))
        rw [Int.neg_mul]
        generalize fn T k (c + b) = x
        generalize t * fn T c (c + b) = y
        omega
      · rw [if_neg (fun h => h1 (by omega)), if_neg h1, Int.sub_self]; exact Int.dvd_zero _)
    rw [det_add (n - c) (k - c) 0 (subM c (fn T)) (-t) (by omega) (by omega) (by omega)] at e
    obtain ⟨u, hu⟩ := e
    obtain ⟨v, hv⟩ := hv
    refine ⟨out * u + v, ?_⟩
    generalize G (-1) (n - c) (subM c (fn T')) = g at *
    generalize G (-1) (n - c) (subM c (fn T)) = f at *
    have : g = f + 9973 * u := by omega
    rw [this]; grind
  · rw [hl.other (by omega) (by omega) (by omega)]; exact h.top
  · by_cases hik : i = k
    · subst hik
      rw [hl i c hk (by omega), if_pos ⟨rfl, by omega⟩, h.top]
      exact Int.emod_eq_zero_of_dvd ht
    · rw [hl.other (by omega) (by omega) hik]; exact h.zero i h1 (by omega)
/-- the reciprocal -/
def powM (a n : Nat) : Nat := a ^ n % 9973
theorem powM_lt (a n : Nat) : powM a n < 9973 := Nat.mod_lt _ (by decide)
def invP (a : Nat) : Nat := powM a 9971
theorem invP_lt (a : Nat) : invP a < 9973 := powM_lt a 9971
theorem by_ok {x piv : Nat} (h0 : 0 < piv) (h1 : piv < 9973) : (9973 : Int) ∣ (x : Int) - ((x * invP piv % 9973 : Nat) : Int) * (piv : Int) := by
  have h2 : piv * invP piv % 9973 = 1 := by
    have := over_ok h0 h1
    unfold invP powM
    exact this
  generalize invP piv = o at *
  obtain ⟨q, hq⟩ : ∃ q : Nat, piv * o = 9973 * q + 1 := ⟨piv * o / 9973, by omega⟩
  obtain ⟨r, hr⟩ : ∃ r : Nat, x * o = 9973 * r + x * o % 9973 := ⟨x * o / 9973, by omega⟩
  generalize x * o % 9973 = t at *
  have hq' : (piv : Int) * o = 9973 * q + 1 := by rw [← Int.natCast_mul, hq]; omega
  have hr' : (x : Int) * o = 9973 * r + t := by rw [← Int.natCast_mul]; omega
  refine ⟨r * piv - x * q, ?_⟩
  have e : (t : Int) * piv = x * (9973 * q + 1) - 9973 * r * piv := by rw [← hq']; grind
  grind
end Go.Proofs.YtghgekimeglogaaDoor
