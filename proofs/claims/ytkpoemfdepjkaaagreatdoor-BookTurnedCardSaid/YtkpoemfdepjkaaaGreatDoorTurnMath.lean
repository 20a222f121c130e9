/- Plain: a log's text with one byte turned: the line is told, and that it is wrong. -/
import Derived.Test.YtkpoemfdepjkaaaGreatDoorReplay
namespace Go.Proofs.YtkpoemfdepjkaaaGreatDoor
open Go.RowKit
set_option linter.unusedVariables false
set_option linter.unusedSimpArgs false

/-- bytes, each times its place -/
def wsum : List UInt8 → Nat → Nat
  | [], _ => 0
  | b :: r, k => b.toNat * (k + 1) + wsum r (k + 1)
theorem wsum_app : ∀ (a b : List UInt8) (k : Nat), wsum (a ++ b) k = wsum a k + wsum b (k + a.length)
  | [], b, k => by simp [wsum]
  | x :: r, b, k => by
    rw [List.cons_append, wsum, wsum, wsum_app r b (k + 1), List.length_cons, show k + 1 + r.length = k + (r.length + 1) by omega]
    omega
theorem csum_w (l : List UInt8) : ∀ k, k ≤ l.length → csum l k = ((wsum (l.take k) 0 : Nat) : Int)
  | 0, _ => rfl
  | k + 1, h => by
    have hk : k < l.length := h
    rw [csum, csum_w l k (by omega), List.take_add_one, List.getElem?_eq_getElem hk, Option.toList_some, wsum_app, List.length_take, Nat.min_eq_left (by omega), List.getD_eq_getElem?_getD, List.getElem?_eq_getElem hk]
    simp only [wsum, Option.getD_some, Nat.zero_add, Nat.add_zero, Int.natCast_add, Int.natCast_mul, Int.natCast_one]
theorem sumOf_w (x : List UInt8) : sumOf (ba x) = ((wsum x 0 % 9973 : Nat) : Int) := by
  show csum (ba x).data.toList (ba x).size % 9973 = _
  rw [ba_toList, ba_size, csum_w x _ (Nat.le_refl _), List.take_length]
  omega
/-- the places told -/
def tri : Nat → Nat → Nat
  | 0, _ => 0
  | n + 1, k => (k + 1) + tri n (k + 1)
theorem wsum_le (hi : Nat) : ∀ (l : List UInt8) (k : Nat), (∀ b ∈ l, b.toNat ≤ hi) → wsum l k ≤ hi * tri l.length k
  | [], k, _ => by simp [wsum, tri]
  | b :: r, k, h => by
    have h1 := wsum_le hi r (k + 1) (fun x hx => h x (List.mem_cons_of_mem _ hx))
    have h2 : b.toNat * (k + 1) ≤ hi * (k + 1) := Nat.mul_le_mul_right _ (h b (by simp))
    rw [wsum, List.length_cons, tri, Nat.mul_add hi (k + 1)]
    omega
theorem wsum_ge (lo : Nat) : ∀ (l : List UInt8) (k : Nat), (∀ b ∈ l, lo ≤ b.toNat) → lo * tri l.length k ≤ wsum l k
  | [], k, _ => by simp [wsum, tri]
  | b :: r, k, h => by
    have h1 := wsum_ge lo r (k + 1) (fun x hx => h x (List.mem_cons_of_mem _ hx))
    have h2 : lo * (k + 1) ≤ b.toNat * (k + 1) := Nat.mul_le_mul_right _ (h b (by simp))
    rw [wsum, List.length_cons, tri, Nat.mul_add lo (k + 1)]
    omega
theorem tri_ge : ∀ n : Nat, 7 ≤ n → n ≤ 10 → 28 ≤ tri n 0 ∧ tri n 0 ≤ 55 := by
  intro n h1 h2
  have : n = 7 ∨ n = 8 ∨ n = 9 ∨ n = 10 := by omega
  rcases this with rfl | rfl | rfl | rfl <;> decide
theorem tri_at : ∀ n k : Nat, n ≤ 3 → k ≤ 11 → tri n k ≤ 39 := by
  intro n k h1 h2
  have : n = 0 ∨ n = 1 ∨ n = 2 ∨ n = 3 := by omega
  rcases this with rfl | rfl | rfl | rfl <;> simp only [tri] <;> omega

/-- a line of a log: the record, in two parts, and its sum -/
structure GoodL (l p N D : List UInt8) (S : Nat) : Prop where
  eq : l = (p ++ 32 :: N) ++ 32 :: D
  plen : p.length = 5
  pin : ∀ b ∈ p, 32 ≤ b.toNat ∧ b.toNat ≤ 115
  nlen : 1 ≤ N.length ∧ N.length ≤ 4
  ndig : ∀ b ∈ N, isDig b = true
  ddig : D = Lib.decDigits S
  sum : (S : Int) = sumOf (ba (p ++ 32 :: N))
  small : S ≤ 9972
theorem dd_all (n : Nat) : ∀ b ∈ Lib.decDigits n, isDig b = true := fun b hb => List.all_eq_true.1 (dd_spec n).2.1 b hb
theorem dd_pos (n : Nat) : 1 ≤ (Lib.decDigits n).length := List.length_pos_iff.2 (dd_spec n).1
theorem good_line {word : ByteArray} {w : UInt8} (hw : word.data.toList = [w]) (h32 : w ≠ 32) (h10 : w ≠ 10) (hin : 32 ≤ w.toNat ∧ w.toNat ≤ 115) {i j n : Nat} (hi : i ≤ 3) (hj : j ≤ 3) (hn : n ≤ 9972) :
    ∃ p N D S, GoodL (lineOf word [(i : Int), j, n]).data.toList p N D S := by
  obtain ⟨S, hS, hS2, hl, -⟩ := line_facts hw h32 h10 hi hj hn
  have hr := rec_list word i j n
  rw [hw] at hr
  have hr2 : (recOf word [(i : Int), j, n]).data.toList = (w :: 32 :: (Lib.decDigits i ++ 32 :: Lib.decDigits j)) ++ 32 :: Lib.decDigits n := by rw [hr]; simp
  have d1 := dd_one hi
  have d2 := dd_one hj
  refine ⟨w :: 32 :: (Lib.decDigits i ++ 32 :: Lib.decDigits j), Lib.decDigits n, Lib.decDigits S, S, by rw [hl, hr2], by simp [d1, d2], ?_, ⟨dd_pos n, nDig_le (by omega)⟩, dd_all n, rfl, ?_, hS2⟩
  · intro b hb
    have hdg : ∀ m, b ∈ Lib.decDigits m → 32 ≤ b.toNat ∧ b.toNat ≤ 115 := fun m hm => by
      have := dig_range (dd_all m b hm)
      omega
    have hsp : b = 32 → 32 ≤ b.toNat ∧ b.toNat ≤ 115 := fun e => by rw [e]; decide
    simp only [List.mem_cons, List.mem_append] at hb
    rcases hb with rfl | h | h | h | h
    · exact hin
    · exact hsp h
    · exact hdg _ h
    · exact hsp h
    · exact hdg _ h
  · rw [← hr2, ba_data]; exact hS
theorem bRun_good (steps : List (List Int)) : ∀ k, ∀ l ∈ (bRun steps k).2, ∃ p N D S, GoodL l.data.toList p N D S
  | 0 => fun l h => by simp [bRun] at h
  | k + 1 => by
    have ih := bRun_good steps k
    rw [bRun]
    generalize bRun steps k = s at *
    generalize steps.getD k [] = x
    unfold bStep
    by_cases h4 : x.length = 4
    · rw [if_pos h4]
      by_cases h0 : x.getD 0 0 = 0
      · rw [if_pos h0]
        by_cases he : setErr (x.getD 1 0) (x.getD 2 0) (x.getD 3 0) s.2.length = 0
        · rw [bSet_len he]
          intro l hl
          rcases List.mem_append.1 hl with hl | hl
          · exact ih l hl
          · obtain rfl := List.mem_singleton.1 hl
            obtain ⟨p, q, m, e1, e2, e3, hp, hq, hm⟩ := nats_of (setErr_zero he).1
            rw [e1, e2, e3]
            exact good_line wordS_list (by decide) (by decide) (by decide) hp hq hm
        · rw [show bSet s (x.getD 1 0) (x.getD 2 0) (x.getD 3 0) = s from if_neg he]; exact ih
      · rw [if_neg h0]
        by_cases he : addErr (x.getD 1 0) (x.getD 2 0) (x.getD 3 0) s.2.length = 0
        · rw [bAdd_len he]
          intro l hl
          rcases List.mem_append.1 hl with hl | hl
          · exact ih l hl
          · obtain rfl := List.mem_singleton.1 hl
            obtain ⟨p, q, m, e1, e2, e3, hp, hq, hm⟩ := nats_of (addErr_zero he).1
            rw [e1, e2, e3]
            exact good_line wordA_list (by decide) (by decide) (by decide) hp hq hm
        · rw [show bAdd s (x.getD 1 0) (x.getD 2 0) (x.getD 3 0) = s from if_neg he]; exact ih
    · rw [if_neg h4]; exact ih

theorem lineE_cases {l x y : List UInt8} (h : lastCut l = some (x, y)) (hne : ∀ n : Nat, numL y = some n → (n : Int) ≠ sumOf (ba x)) (s : BS) : (lineE l s).1 = 2 ∨ (lineE l s).1 = 6 := by
  unfold lineE
  rw [h]
  simp only
  cases hn : numL y with
  | none => exact Or.inl rfl
  | some n =>
    simp only
    rw [if_pos (hne n hn)]
    exact Or.inr rfl
theorem dig_free {N : List UInt8} (h : ∀ b ∈ N, isDig b = true) : (32 : UInt8) ∉ N := fun hm => by
  have := h 32 hm
  revert this
  decide
theorem mod_turn {S A B x c k : Nat} (hk : k ≤ 9) (hx : x < 256) (hc : c < 256) (hne : x ≠ c) (hS : S ≤ 9972) (q1 : S = A + (x * (k + 1) + B)) (e : S = (A + (c * (k + 1) + B)) % 9973) : False := by
  have h1 : x * (k + 1) ≤ 255 * 10 := Nat.mul_le_mul (by omega) (by omega)
  have h2 : c * (k + 1) ≤ 255 * 10 := Nat.mul_le_mul (by omega) (by omega)
  have h3 : x * (k + 1) ≠ c * (k + 1) := fun h => hne (Nat.mul_right_cancel (Nat.succ_pos k) h)
  generalize x * (k + 1) = X at *
  generalize c * (k + 1) = C at *
  clear hne hx hc hk
  have h4 : A + (C + B) < 9973 + 9973 := by omega
  by_cases h5 : A + (C + B) < 9973
  · rw [Nat.mod_eq_of_lt h5] at e
    omega
  · rw [Nat.mod_eq_sub_mod (by omega), Nat.mod_eq_of_lt (by omega)] at e
    omega
theorem dd_hund {n : Nat} (h : 100 ≤ n) : 3 ≤ (Lib.decDigits n).length := by
  rw [Lib.decDigits, dif_neg (by omega), List.length_append, Lib.decDigits, dif_neg (by omega), List.length_append]
  have := dd_pos (n / 10 / 10)
  simp only [List.length_singleton]
  omega
theorem dd_thou {n : Nat} (h : 1000 ≤ n) : 4 ≤ (Lib.decDigits n).length := by
  rw [Lib.decDigits, dif_neg (by omega), List.length_append]
  have := dd_hund (n := n / 10) (by omega)
  simp only [List.length_singleton]
  omega
set_option maxHeartbeats 1000000 in
/-- one byte of a good line turned -/
theorem turn_line {l p N D : List UInt8} {S : Nat} (hg : GoodL l p N D S) {a b : List UInt8} {x c : UInt8} (hl : l = a ++ x :: b) (hx : x ≠ c) (s : BS) : (lineE (a ++ c :: b) s).1 = 2 ∨ (lineE (a ++ c :: b) s).1 = 6 := by
  obtain ⟨heq, h5, hpin, ⟨hn1, hn4⟩, hnd, hD, hS, hsm⟩ := hg
  have hND := dig_free hnd
  have hDD : (32 : UInt8) ∉ D := by rw [hD]; exact dig_free (dd_all S)
  have hrb : ∀ b ∈ p ++ 32 :: N, 32 ≤ b.toNat ∧ b.toNat ≤ 115 := fun y hy => by
    simp only [List.mem_append, List.mem_cons] at hy
    rcases hy with h | rfl | h
    · exact hpin y h
    · decide
    · have := dig_range (hnd y h); omega
  have hrl : (p ++ 32 :: N).length = 6 + N.length := by simp [h5]; omega
  obtain ⟨ht1, ht2⟩ := tri_ge (6 + N.length) (by omega) (by omega)
  have hw1 := wsum_ge 32 (p ++ 32 :: N) 0 (fun b hb => (hrb b hb).1)
  have hw2 := wsum_le 115 (p ++ 32 :: N) 0 (fun b hb => (hrb b hb).2)
  rw [hrl] at hw1 hw2
  have hSw : S = wsum (p ++ 32 :: N) 0 := by
    rw [sumOf_w] at hS
    omega
  have hDl4 : D.length ≤ 4 := by rw [hD]; exact nDig_le (by omega)
  have hnum : ∀ (y : List UInt8) (n : Nat), numL y = some n → n < 10000 → y.length ≤ 4 := fun y n h hlt => by
    rw [(numL_some h).2]; exact nDig_le hlt
  have hDl3 : 3 ≤ D.length := by rw [hD]; exact dd_hund (by omega)
  rw [hl] at heq
  clear hl
  rcases List.append_eq_append_iff.1 heq with ⟨a', e1, e2⟩ | ⟨c', e1, e2⟩
  · -- p ++ 32 :: N = a ++ a', x :: b = a' ++ 32 :: D
    cases a' with
    | nil =>
      -- the blank ahead of the sum
      simp only [List.nil_append, List.cons.injEq] at e2
      obtain ⟨rfl, rfl⟩ := e2
      rw [List.append_nil] at e1
      rw [← e1]
      have hc : (32 : UInt8) ∉ N ++ c :: b := by
        simp only [List.mem_append, List.mem_cons, not_or]
        exact ⟨hND, hx, hDD⟩
      refine lineE_cases (x := p) (y := N ++ c :: b) ?_ (fun n hn => ?_) s
      · rw [List.append_assoc, List.cons_append]
        exact lastCut_app hc p
      · rw [sumOf_w]
        intro e
        have := hnum _ n hn (by omega)
        rw [List.length_append, List.length_cons] at this
        omega
    | cons y a'' =>
      -- within the record
      simp only [List.cons_append, List.cons.injEq] at e2
      obtain ⟨rfl, rfl⟩ := e2
      refine lineE_cases (x := a ++ c :: a'') (y := D) ?_ (fun n hn => ?_) s
      · rw [show a ++ c :: (a'' ++ 32 :: D) = (a ++ c :: a'') ++ 32 :: D by simp]
        exact lastCut_app hDD _
      · rw [hD, numL_dd S (by omega)] at hn
        obtain rfl := Option.some.inj hn
        rw [sumOf_w, hSw, e1]
        intro e
        have e' : wsum (a ++ x :: a'') 0 = wsum (a ++ c :: a'') 0 % 9973 := by omega
        rw [← e1, ← hSw] at e'
        have hlen : a.length ≤ 9 := by
          have := congrArg List.length e1
          rw [hrl, List.length_append, List.length_cons] at this
          omega
        have hxl := x.toNat_lt
        have hcl := c.toNat_lt
        have hne : x.toNat ≠ c.toNat := fun h => hx (UInt8.toNat_inj.1 h)
        have q1 : wsum (a ++ x :: a'') 0 = wsum a 0 + (x.toNat * (a.length + 1) + wsum a'' (a.length + 1)) := by rw [wsum_app, wsum, Nat.zero_add]
        have q2 : wsum (a ++ c :: a'') 0 = wsum a 0 + (c.toNat * (a.length + 1) + wsum a'' (a.length + 1)) := by rw [wsum_app, wsum, Nat.zero_add]
        rw [← e1, ← hSw] at q1
        rw [q2] at e'
        exact mod_turn hlen hxl hcl hne hsm q1 e'
  · -- a = p ++ 32 :: N ++ c', 32 :: D = c' ++ x :: b
    cases c' with
    | nil =>
      simp only [List.nil_append, List.cons.injEq] at e2
      obtain ⟨rfl, rfl⟩ := e2
      rw [List.append_nil] at e1
      rw [e1]
      have hc : (32 : UInt8) ∉ N ++ c :: D := by
        simp only [List.mem_append, List.mem_cons, not_or]
        exact ⟨hND, hx, hDD⟩
      refine lineE_cases (x := p) (y := N ++ c :: D) ?_ (fun n hn => ?_) s
      · rw [List.append_assoc, List.cons_append]
        exact lastCut_app hc p
      · rw [sumOf_w]
        intro e
        have := hnum _ n hn (by omega)
        rw [List.length_append, List.length_cons] at this
        omega
    | cons y c'' =>
      simp only [List.cons_append, List.cons.injEq] at e2
      obtain ⟨rfl, e2⟩ := e2
      -- within the sum: D = c'' ++ x :: b
      have hDb : ∀ z ∈ c'' ++ x :: b, isDig z = true := fun z hz => dd_all S z (by rw [← hD, e2]; exact hz)
      have hbd : (32 : UInt8) ∉ b := fun h => hDD (by rw [e2]; simp [h])
      have hcd : (32 : UInt8) ∉ c'' := fun h => hDD (by rw [e2]; simp [h])
      have hlen : c''.length + 1 + b.length = D.length := by rw [e2, List.length_append, List.length_cons]; omega
      by_cases hc : c = 32
      · subst hc
        refine lineE_cases (x := (p ++ 32 :: N) ++ 32 :: c'') (y := b) ?_ (fun n hn => ?_) s
        · rw [e1]
          exact lastCut_app hbd _
        · rw [sumOf_w, wsum_app, ← hSw]
          have hb3 : n ≤ 999 := by
            rcases Nat.lt_or_ge n 1000 with h | h
            · omega
            · have := dd_thou h
              rw [← (numL_some hn).2] at this
              omega
          have k1 := wsum_le 57 c'' (0 + (p ++ 32 :: N).length + 1) (fun z hz => (dig_range (hDb z (by simp [hz]))).2)
          have k2 := tri_at c''.length (0 + (p ++ 32 :: N).length + 1) (by omega) (by rw [hrl]; omega)
          rw [wsum, show (32 : UInt8).toNat = 32 from rfl]
          rw [hrl] at *
          generalize wsum c'' (0 + (6 + N.length) + 1) = X at *
          generalize tri c''.length (0 + (6 + N.length) + 1) = Y at *
          have hX : X ≤ 2223 := by omega
          have hS1 : S ≤ 6325 := by omega
          have hS2 : 896 ≤ S := by omega
          rw [Nat.mod_eq_of_lt (by omega)]
          omega
      · refine lineE_cases (x := p ++ 32 :: N) (y := c'' ++ c :: b) ?_ (fun n hn => ?_) s
        · rw [e1, show p ++ 32 :: N ++ 32 :: c'' ++ c :: b = (p ++ 32 :: N) ++ 32 :: (c'' ++ c :: b) by simp]
          refine lastCut_app ?_ _
          simp only [List.mem_append, List.mem_cons, not_or]
          exact ⟨hcd, fun h => hc h.symm, hbd⟩
        · rw [← hS]
          intro e
          have e3 : n = S := by omega
          subst e3
          have e4 := (numL_some hn).2
          rw [← hD, e2] at e4
          have e5 := List.append_cancel_left e4
          simp only [List.cons.injEq] at e5
          exact hx e5.1.symm

theorem turn_split : ∀ (ls : List (List UInt8)) (A R : List UInt8) (x : UInt8), (∀ l ∈ ls, (10 : UInt8) ∉ l) → x ≠ 10 → ls.flatMap (· ++ [10]) = A ++ x :: R →
    ∃ pre l post a b, ls = pre ++ l :: post ∧ l = a ++ x :: b ∧ A = pre.flatMap (· ++ [10]) ++ a ∧ R = b ++ 10 :: post.flatMap (· ++ [10]) ∧ A.count 10 = pre.length
  | [], A, R, x, _, _, h => by simp at h
  | l :: r, A, R, x, h, hx, he => by
    have hl := h l (by simp)
    rw [List.flatMap_cons, List.append_assoc, List.singleton_append] at he
    rcases List.append_eq_append_iff.1 he with ⟨a', e1, e2⟩ | ⟨c', e1, e2⟩
    · cases a' with
      | nil =>
        simp only [List.nil_append, List.cons.injEq] at e2
        exact absurd e2.1.symm hx
      | cons y a'' =>
        simp only [List.cons_append, List.cons.injEq] at e2
        obtain ⟨rfl, e2⟩ := e2
        obtain ⟨pre, m, post, a, b, h1, h2, h3, h4, h5⟩ := turn_split r a'' R x (fun z hz => h z (by simp [hz])) hx e2
        refine ⟨l :: pre, m, post, a, b, by rw [h1]; rfl, h2, by rw [e1, h3, List.flatMap_cons]; simp, h4, ?_⟩
        rw [e1, List.count_append, List.count_eq_zero_of_not_mem hl, List.count_cons_self, h5, List.length_cons]
        omega
    · cases c' with
      | nil =>
        simp only [List.nil_append, List.cons.injEq] at e2
        exact absurd e2.1 hx
      | cons y b =>
        simp only [List.cons_append, List.cons.injEq] at e2
        obtain ⟨rfl, e2⟩ := e2
        refine ⟨[], l, r, A, b, rfl, e1, by simp, e2, ?_⟩
        rw [List.length_nil]
        exact List.count_eq_zero_of_not_mem fun hm => hl (by rw [e1]; simp [hm])
theorem runL_turn : ∀ (pre : List (List UInt8)) (l l' : List UInt8) (post : List (List UInt8)) (s : BS) (k m : Nat) (st : BS), runL (pre ++ l :: post) s k = (0, m, st) → (∀ s, (lineE l' s).1 = 2 ∨ (lineE l' s).1 = 6) →
    ((runL (pre ++ l' :: post) s k).1 = 2 ∨ (runL (pre ++ l' :: post) s k).1 = 6) ∧ (runL (pre ++ l' :: post) s k).2.1 = k + pre.length + 1
  | [], l, l', post, s, k, m, st, h, hl => by
    have h2 := hl s
    rw [List.nil_append, runL, if_neg (by omega)]
    exact ⟨h2, rfl⟩
  | p :: r, l, l', post, s, k, m, st, h, hl => by
    rw [List.cons_append, runL] at h ⊢
    by_cases he : (lineE p s).1 = 0
    · rw [if_pos he] at h ⊢
      obtain ⟨h1, h2⟩ := runL_turn r l l' post _ _ m st h hl
      exact ⟨h1, by rw [h2, List.length_cons]; omega⟩
    · rw [if_neg he] at h
      simp only [Prod.mk.injEq] at h
      exact absurd h.1 he
/-- what the turned text says -/
theorem turn_all (steps : List (List Int)) (K : Nat) (A R : List UInt8) (x c : UInt8) (ht : (textOf (bRun steps K).2).data.toList = A ++ x :: R) (hx : x ≠ 10) (hc : c ≠ 10) (hxc : x ≠ c) :
    ∃ e m s, openE (A ++ c :: R) = (e, m, s) ∧ (e = 2 ∨ e = 6) ∧ m = A.count 10 + 1 := by
  have hlog := bRun_log steps K
  have hgood := bRun_good steps K
  have hsh := hlog.short
  rw [← size_list] at hsh
  have hlen : (A ++ c :: R).length = (textOf (bRun steps K).2).data.toList.length := by rw [ht]; simp
  rw [text_list] at ht
  obtain ⟨pre, l, post, a, b, h1, h2, h3, h4, h5⟩ := turn_split _ A R x hlog.lists hx ht
  have hlf := hlog.lists
  have hlm : l ∈ listsOf (bRun steps K).2 := by rw [h1]; simp
  obtain ⟨p, N, D, S, hg⟩ : ∃ p N D S, GoodL l p N D S := by
    unfold listsOf at hlm
    obtain ⟨z, hz, rfl⟩ := List.mem_map.1 hlm
    exact hgood z hz
  have hl' : (10 : UInt8) ∉ a ++ c :: b := by
    have := hlf l hlm
    rw [h2] at this
    simp only [List.mem_append, List.mem_cons, not_or] at this ⊢
    exact ⟨this.1, fun h => hc h.symm, this.2.2⟩
  have hnew : A ++ c :: R = (pre ++ (a ++ c :: b) :: post).flatMap (· ++ [10]) := by
    rw [h3, h4, List.flatMap_append, List.flatMap_cons]
    simp
  have hrun := hlog.run
  rw [h1] at hrun
  obtain ⟨r1, r2⟩ := runL_turn pre l (a ++ c :: b) post _ 0 _ _ hrun (fun s => turn_line hg h2 hxc s)
  have ho : openE (A ++ c :: R) = runL (pre ++ (a ++ c :: b) :: post) (zeros4, []) 0 := by
    unfold openE
    rw [if_neg (by omega)]
    unfold linesOf
    rw [hnew, cut_text _ (fun z hz => ?_), List.dropLast_concat]
    rcases List.mem_append.1 hz with hz | hz
    · exact hlf z (by rw [h1]; simp [hz])
    · rcases List.mem_cons.1 hz with rfl | hz
      · exact hl'
      · exact hlf z (by rw [h1]; simp [hz])
  refine ⟨_, _, _, ho.trans rfl, r1, by rw [r2, h5]; omega⟩
end Go.Proofs.YtkpoemfdepjkaaaGreatDoor
