/- Plain: numerals, and texts cut at a byte. No program in sight. -/
import Derived.Lib.AtoiAll
import Derived.Lib.ItoaNum
import Derived.Lib.SplitLaws
import Derived.Lib.SlTrimSet
import Derived.Lib.IndexBytes
import Derived.Lib.IndexLaws
namespace Go.Proofs.YtokneabcgmjhdaaGreatDoor
set_option linter.unusedVariables false
set_option linter.unusedSimpArgs false

def isDig (b : UInt8) : Bool := decide (48 ≤ b.toNat) && decide (b.toNat ≤ 57)
def valS (a : Nat) (c : UInt8) : Nat := a * 10 + (c.toNat - 48)
def valF (acc : Nat) (l : List UInt8) : Nat := l.foldl valS acc
/-- a numeral: digits, no nought ahead -/
def plainL (l : List UInt8) : Bool := decide (l ≠ []) && !(decide (1 < l.length) && decide (l.head? = some 48)) && l.all isDig
def numL (l : List UInt8) : Option Nat := if plainL l = true ∧ valF 0 l < 9223372036854775808 then some (valF 0 l) else none

theorem valF_nil (acc : Nat) : valF acc [] = acc := rfl
theorem valF_cons (b : UInt8) (r : List UInt8) (acc : Nat) : valF acc (b :: r) = valF (acc * 10 + (b.toNat - 48)) r := List.foldl_cons ..
theorem valF_snoc (c : UInt8) (l : List UInt8) (acc : Nat) : valF acc (l ++ [c]) = valF acc l * 10 + (c.toNat - 48) := by
  unfold valF
  rw [List.foldl_append]
  rfl
theorem valF_mono (l : List UInt8) : ∀ (acc : Nat), acc ≤ valF acc l := by
  induction l with
  | nil => intro acc; rw [valF_nil]; exact Nat.le_refl _
  | cons b r ih =>
    intro acc
    rw [valF_cons]
    have := ih (acc * 10 + (b.toNat - 48))
    omega
theorem dig_toNat {d : Nat} (h : d < 10) : (UInt8.ofNat (48 + d)).toNat = 48 + d := by
  rw [UInt8.toNat_ofNat']
  exact Nat.mod_eq_of_lt (Nat.lt_of_lt_of_le (Nat.add_lt_add_left h 48) (by decide))
theorem isDig_of {d : Nat} (h : d < 10) : isDig (UInt8.ofNat (48 + d)) = true := by
  unfold isDig
  rw [dig_toNat h, decide_eq_true (show 48 ≤ 48 + d by omega), decide_eq_true (show 48 + d ≤ 57 by omega)]
  rfl
theorem dig_range {b : UInt8} (h : isDig b = true) : 48 ≤ b.toNat ∧ b.toNat ≤ 57 := by
  unfold isDig at h
  simpa using h
theorem of_isDig {b : UInt8} (h : isDig b = true) : ∃ d, d < 10 ∧ b = UInt8.ofNat (48 + d) ∧ b.toNat = 48 + d := by
  have h1 := dig_range h
  have h2 : b.toNat - 48 < 10 := by omega
  refine ⟨b.toNat - 48, h2, ?_, by omega⟩
  apply UInt8.toNat_inj.1
  rw [dig_toNat h2]
  omega

/-- decimal digits: all digits, no nought ahead -/
theorem dd_spec (n : Nat) : Lib.decDigits n ≠ [] ∧ (Lib.decDigits n).all isDig = true ∧ valF 0 (Lib.decDigits n) = n ∧ (1 ≤ n → (Lib.decDigits n).head? ≠ some 48) ∧ (n < 10 → (Lib.decDigits n).length = 1) := by
  induction n using Nat.strongRecOn with
  | _ n ih =>
    by_cases h : n < 10
    · rw [Lib.decDigits_one h]
      refine ⟨by simp, by rw [List.all_cons, isDig_of h]; rfl, ?_, fun h1 => ?_, fun _ => rfl⟩
      · rw [valF_cons, valF_nil]
        rw [dig_toNat h]; omega
      · simp only [List.head?_cons, ne_eq, Option.some.injEq]
        intro e
        have := congrArg UInt8.toNat e
        rw [dig_toNat h] at this
        have h2 : (48 : UInt8).toNat = 48 := rfl
        omega
    · obtain ⟨h1, h2, h3, h4, h5⟩ := ih (n / 10) (by omega)
      rw [Lib.decDigits, dif_neg h]
      refine ⟨by simp, ?_, ?_, fun _ => ?_, fun h' => absurd h' h⟩
      · rw [List.all_append, h2]
        rw [List.all_cons, isDig_of (show n % 10 < 10 by omega)]
        rfl
      · rw [valF_snoc, h3, dig_toNat (show n % 10 < 10 by omega)]
        omega
      · rw [List.head?_append]
        have h6 := h4 (by omega)
        cases hd : (Lib.decDigits (n / 10)).head? with
        | none => rw [List.head?_eq_none_iff] at hd; exact absurd hd h1
        | some x => rw [hd] at h6; simpa using h6
theorem plain_dd (n : Nat) : plainL (Lib.decDigits n) = true := by
  obtain ⟨h1, h2, h3, h4, h5⟩ := dd_spec n
  unfold plainL
  rw [h2]
  by_cases h : n < 10
  · simp [h1, h5 h]
  · simp [h1, h4 (by omega)]
theorem numL_dd (n : Nat) (h : n < 9223372036854775808) : numL (Lib.decDigits n) = some n := by
  have h3 := (dd_spec n).2.2.1
  unfold numL
  rw [h3, if_pos ⟨plain_dd n, h⟩]
theorem plain_spec {l : List UInt8} : plainL l = true ↔ l ≠ [] ∧ (1 < l.length → l.head? ≠ some 48) ∧ ∀ b ∈ l, isDig b = true := by
  unfold plainL
  simp only [Bool.and_eq_true, decide_eq_true_eq, Bool.not_eq_true', Bool.and_eq_false_iff, decide_eq_false_iff_not, List.all_eq_true]
  constructor
  · rintro ⟨⟨h1, h2⟩, h3⟩
    exact ⟨h1, fun h => by rcases h2 with h2 | h2; exact absurd h h2; exact h2, h3⟩
  · rintro ⟨h1, h2, h3⟩
    refine ⟨⟨h1, ?_⟩, h3⟩
    by_cases h : 1 < l.length
    · exact Or.inr (h2 h)
    · exact Or.inl h
/-- a numeral is its value's digits -/
theorem dd_plain : ∀ (k : Nat) (l : List UInt8), l.length = k → plainL l = true → Lib.decDigits (valF 0 l) = l := by
  intro k
  induction k with
  | zero =>
    intro l hl h
    rw [List.length_eq_zero_iff] at hl
    subst hl
    simp [plainL] at h
  | succ k ih =>
    intro l hl h
    obtain ⟨h1, h2, h3⟩ := plain_spec.1 h
    have hne : l ≠ [] := h1
    obtain ⟨a, c, rfl⟩ : ∃ a c, l = a ++ [c] := ⟨l.dropLast, l.getLast hne, (List.dropLast_concat_getLast hne).symm⟩
    have hal : a.length = k := by simpa using hl
    obtain ⟨d, hd, hc, hcn⟩ := of_isDig (h3 c (by simp))
    rw [valF_snoc, hcn]
    by_cases ha : a = []
    · subst ha
      rw [valF_nil, show 0 * 10 + (48 + d - 48) = d by omega, Lib.decDigits_one hd, hc]
      rfl
    · have hpos : 0 < a.length := List.length_pos_iff.2 ha
      have hhd : a.head? ≠ some 48 := by
        have := h2 (by simp; omega)
        rw [List.head?_append] at this
        cases hh : a.head? with
        | none => rw [List.head?_eq_none_iff] at hh; exact absurd hh ha
        | some x => rw [hh] at this; simpa using this
      have hpa : plainL a = true := plain_spec.2 ⟨ha, fun _ => hhd, fun b hb => h3 b (by simp [hb])⟩
      have hv : 1 ≤ valF 0 a := by
        cases a with
        | nil => exact absurd rfl ha
        | cons x r =>
          obtain ⟨e, he, hx, hxn⟩ := of_isDig (h3 x (by simp))
          have := valF_mono r (0 * 10 + (x.toNat - 48))
          rw [valF_cons]
          have hne0 : e ≠ 0 := by
            rintro rfl
            rw [hx] at hhd
            exact hhd rfl
          omega
      have e := ih a hal hpa
      rw [Lib.decDigits, dif_neg (by omega), show (valF 0 a * 10 + (48 + d - 48)) / 10 = valF 0 a by omega, show (valF 0 a * 10 + (48 + d - 48)) % 10 = d by omega, e, hc]
theorem numL_some {l : List UInt8} {n : Nat} (h : numL l = some n) : n < 9223372036854775808 ∧ l = Lib.decDigits n := by
  unfold numL at h
  split at h
  · rename_i hp
    obtain rfl := Option.some.inj h
    exact ⟨hp.2, (dd_plain _ l rfl hp.1).symm⟩
  · cases h

theorem parse_ge : ∀ (l : List UInt8) (acc u : Nat), Lib.parseUint10 acc l = .ok u → 9223372036854775808 ≤ acc → 9223372036854775808 ≤ u
  | [], acc, u, h, ha => by
    simp only [Lib.parseUint10, Lib.NumEnd.ok.injEq] at h
    omega
  | c :: r, acc, u, h, ha => by
    simp only [Lib.parseUint10] at h
    split at h
    · split at h
      · cases h
      · split at h
        · cases h
        · exact parse_ge r _ u h (by omega)
    · cases h
theorem parse_dig : ∀ (l : List UInt8) (acc : Nat), (∀ b ∈ l, isDig b = true) → Lib.parseUint10 acc l = .range ∨ ∃ u, Lib.parseUint10 acc l = .ok u
  | [], acc, _ => Or.inr ⟨acc, by simp [Lib.parseUint10]⟩
  | c :: r, acc, hd => by
    have hdr := dig_range (hd c (by simp))
    have hdig : 48 ≤ c.toNat ∧ c.toNat ≤ 57 := by omega
    simp only [Lib.parseUint10, if_pos hdig]
    split
    · exact Or.inl rfl
    · split
      · exact Or.inl rfl
      · exact parse_dig r _ (fun b hb => hd b (List.mem_cons_of_mem _ hb))
/-- the library's parse of digits -/
theorem parse_val : ∀ (l : List UInt8) (acc : Nat), (∀ b ∈ l, isDig b = true) → acc < 9223372036854775808 → (valF acc l < 9223372036854775808 → Lib.parseUint10 acc l = .ok (valF acc l)) ∧ (9223372036854775808 ≤ valF acc l → Lib.parseUint10 acc l = .range ∨ ∃ u, Lib.parseUint10 acc l = .ok u ∧ 9223372036854775808 ≤ u)
  | [], acc, _, ha => ⟨fun _ => by rw [valF_nil]; rfl, fun h => by rw [valF_nil] at h; omega⟩
  | c :: r, acc, hd, ha => by
    have hdr := dig_range (hd c (by simp))
    have hr := fun b hb => hd b (List.mem_cons_of_mem _ hb)
    have hdig : 48 ≤ c.toNat ∧ c.toNat ≤ 57 := by omega
    rw [valF_cons]
    simp only [Lib.parseUint10, if_pos hdig]
    by_cases h1 : 1844674407370955162 ≤ acc
    · rw [if_pos h1]
      refine ⟨fun h => ?_, fun _ => Or.inl rfl⟩
      have := valF_mono r (acc * 10 + (c.toNat - 48))
      omega
    · rw [if_neg h1]
      by_cases h2 : 18446744073709551616 ≤ acc * 10 + (c.toNat - 48)
      · rw [if_pos h2]
        refine ⟨fun h => ?_, fun _ => Or.inl rfl⟩
        have := valF_mono r (acc * 10 + (c.toNat - 48))
        omega
      · rw [if_neg h2]
        by_cases h3 : acc * 10 + (c.toNat - 48) < 9223372036854775808
        · exact parse_val r _ hr h3
        · refine ⟨fun h => ?_, fun _ => ?_⟩
          · have := valF_mono r (acc * 10 + (c.toNat - 48))
            omega
          rcases parse_dig r (acc * 10 + (c.toNat - 48)) hr with hp | ⟨u, hp⟩
          · exact Or.inl hp
          · exact Or.inr ⟨u, hp, parse_ge r _ u hp (by omega)⟩
/-- Atoi of digits -/
theorem atoi_digits {l : List UInt8} (hne : l ≠ []) (hd : ∀ b ∈ l, isDig b = true) : (valF 0 l < 9223372036854775808 → Lib.atoiAll l = .ok (valF 0 l : Int)) ∧ (9223372036854775808 ≤ valF 0 l → Lib.atoiAll l = .range) := by
  cases l with
  | nil => exact absurd rfl hne
  | cons c r =>
    have hdr := dig_range (hd c (by simp))
    have h1 : ¬ (c.toNat = 43 ∨ c.toNat = 45) := by omega
    have h2 : ¬ c.toNat = 45 := by omega
    obtain ⟨p1, p2⟩ := parse_val (c :: r) 0 hd (by omega)
    have hm : Lib.parseMag (c :: r) = Lib.parseUint10 0 (c :: r) := if_neg (List.cons_ne_nil c r)
    unfold Lib.atoiAll
    simp only [if_neg h1, hm]
    refine ⟨fun h => ?_, fun h => ?_⟩
    · rw [p1 h]
      simp only [h2]
      rw [if_neg (by omega), if_neg (by simp), if_neg (by simp)]
    · rcases p2 h with h3 | ⟨u, h3, h4⟩
      · rw [h3]
      · rw [h3]
        simp only [h2]
        rw [if_pos ⟨by simp, h4⟩]
/-- Trim of all digits -/
theorem dropWhile_nil {p : UInt8 → Bool} : ∀ {l : List UInt8}, l.dropWhile p = [] ↔ ∀ b ∈ l, p b = true
  | [] => by simp
  | a :: r => by
    rw [List.dropWhile_cons]
    by_cases h : p a = true
    · rw [if_pos h, dropWhile_nil]
      simp [h]
    · rw [if_neg h]
      simp [h]
theorem ten_digits (b : UInt8) : [48, 49, 50, 51, 52, 53, 54, 55, 56, 57].contains b = isDig b := by
  rw [Bool.eq_iff_iff]
  constructor
  · intro h
    simp at h
    rcases h with rfl | rfl | rfl | rfl | rfl | rfl | rfl | rfl | rfl | rfl <;> rfl
  · intro h
    obtain ⟨d, hd, rfl, _⟩ := of_isDig h
    have : d = 0 ∨ d = 1 ∨ d = 2 ∨ d = 3 ∨ d = 4 ∨ d = 5 ∨ d = 6 ∨ d = 7 ∨ d = 8 ∨ d = 9 := by omega
    rcases this with rfl | rfl | rfl | rfl | rfl | rfl | rfl | rfl | rfl | rfl <;> rfl
theorem trim_digits (l : List UInt8) : Lib.trimS l [48, 49, 50, 51, 52, 53, 54, 55, 56, 57] = [] ↔ ∀ b ∈ l, isDig b = true := by
  unfold Lib.trimS Lib.trimLeftS Lib.trimRightS
  rw [dropWhile_nil]
  constructor
  · intro h b hb
    -- the last that is no digit would stay
    by_cases hall : ∀ x ∈ l, isDig x = true
    · exact hall b hb
    · have hne : l.reverse.dropWhile (fun x => [48, 49, 50, 51, 52, 53, 54, 55, 56, 57].contains x) ≠ [] := by
        intro e
        refine hall fun x hx => ?_
        have := dropWhile_nil.1 e x (by simpa using hx)
        rw [ten_digits] at this
        exact this
      obtain ⟨x, r, hxr⟩ := List.exists_cons_of_ne_nil hne
      have hx : ¬ [48, 49, 50, 51, 52, 53, 54, 55, 56, 57].contains x = true := by
        have := List.head_dropWhile_not (fun x : UInt8 => [48, 49, 50, 51, 52, 53, 54, 55, 56, 57].contains x) (l := l.reverse) hne
        simp only [hxr, List.head_cons] at this
        simp only [this]
        simp
      exact absurd (h x (by rw [hxr]; simp)) hx
  · intro h b hb
    rw [ten_digits]
    refine h b ?_
    have h1 : b ∈ l.reverse.dropWhile (fun x => [48, 49, 50, 51, 52, 53, 54, 55, 56, 57].contains x) := by simpa using hb
    have := (List.dropWhile_sublist (fun x : UInt8 => [48, 49, 50, 51, 52, 53, 54, 55, 56, 57].contains x) (l := l.reverse)).subset h1
    simpa using this

/-- a text cut at a byte -/
def cutL (c : UInt8) : List UInt8 → List (List UInt8)
  | [] => [[]]
  | b :: r => if b = c then [] :: cutL c r else match cutL c r with
    | p :: q => (b :: p) :: q
    | [] => [[b]]
theorem cutL_ne (c : UInt8) (l : List UInt8) : cutL c l ≠ [] := by
  cases l with
  | nil => simp [cutL]
  | cons b r =>
    rw [cutL]
    split
    · simp
    · split <;> simp
theorem cutL_free {c : UInt8} : ∀ {l : List UInt8}, c ∉ l → cutL c l = [l]
  | [], _ => rfl
  | b :: r, h => by
    have hb : b ≠ c := fun e => h (by simp [e])
    rw [cutL, if_neg hb, cutL_free (fun hc => h (List.mem_cons_of_mem _ hc))]
theorem cutL_app {c : UInt8} : ∀ {a : List UInt8} (b : List UInt8), c ∉ a → cutL c (a ++ c :: b) = a :: cutL c b
  | [], b, _ => by rw [List.nil_append, cutL, if_pos rfl]
  | x :: r, b, h => by
    have hb : x ≠ c := fun e => h (by simp [e])
    rw [List.cons_append, cutL, if_neg hb, cutL_app b (fun hc => h (List.mem_cons_of_mem _ hc))]
theorem cutL_len (c : UInt8) : ∀ (l : List UInt8), (cutL c l).length = l.count c + 1
  | [] => rfl
  | b :: r => by
    have ih := cutL_len c r
    rw [cutL]
    by_cases h : b = c
    · rw [if_pos h, List.length_cons, ih, h, List.count_cons_self]
    · rw [if_neg h, List.count_cons_of_ne h]
      cases hc : cutL c r with
      | nil => exact absurd hc (cutL_ne c r)
      | cons p q => rw [hc] at ih; simpa using ih
/-- the library's split at one byte -/
theorem splitK_cut (c : UInt8) : ∀ (n : Nat) (l : List UInt8), l.count c = n → Lib.splitK [c] 0 n l = cutL c l := by
  intro n
  induction n with
  | zero =>
    intro l h
    rw [cutL_free (List.count_eq_zero.1 h)]
    rfl
  | succ n ih =>
    intro l h
    rw [Lib.splitK]
    have hmem : c ∈ l := by rw [← List.one_le_count_iff]; omega
    obtain ⟨a, b, rfl, ha⟩ : ∃ a b, l = a ++ c :: b ∧ c ∉ a := by
      obtain ⟨s, t, h1, h2⟩ := List.eq_append_cons_of_mem hmem
      exact ⟨s, t, h1, h2⟩
    have hi : Lib.index (a ++ c :: b) [c] = a.length := by
      rw [Lib.index_one]
      clear ih h hmem
      induction a with
      | nil => simp [Lib.indexByte]
      | cons x r ihr =>
        have hx : x ≠ c := fun e => ha (by simp [e])
        have := ihr (fun hc => ha (List.mem_cons_of_mem _ hc))
        simp only [List.cons_append, Lib.indexByte, this]
        simp [hx]
    rw [hi, cutL_app b ha, if_neg (by simp)]
    have hcb : b.count c = n := by
      rw [List.count_append, List.count_cons_self, List.count_eq_zero.2 ha] at h
      omega
    rw [← ih b hcb]
    simp
end Go.Proofs.YtokneabcgmjhdaaGreatDoor
