/- Contract of the reference's Number. -/
import Derived.Test.YtokneabcgmjhdaaGreatDoorRefDig
import Derived.Test.YtokneabcgmjhdaaGreatDoorRefSum
import Derived.Test.YtokneabcgmjhdaaGreatDoorReplay
namespace Go.Proofs.YtokneabcgmjhdaaGreatDoor
open Go.RowKit
set_option linter.unusedVariables false
set_option linter.unusedSimpArgs false

theorem dd_len : ∀ (k n : Nat), 1 ≤ k → n < 10 ^ k → (Lib.decDigits n).length ≤ k
  | 0, n, h, _ => absurd h (by omega)
  | k + 1, n, _, h => by
    by_cases hn : n < 10
    · rw [(dd_spec n).2.2.2.2 hn]; omega
    · rw [Lib.decDigits, dif_neg hn, List.length_append, List.length_singleton]
      have hk : 1 ≤ k := by
        rcases Nat.eq_zero_or_pos k with rfl | h2
        · simp at h; omega
        · exact h2
      have h3 : n / 10 < 10 ^ k := by
        rw [Nat.pow_succ] at h
        omega
      have := dd_len k (n / 10) hk h3
      omega
theorem numL_long {l : List UInt8} (h : 19 < l.length) : numL l = none := by
  cases hn : numL l with
  | none => rfl
  | some n =>
    obtain ⟨h1, h2⟩ := numL_some hn
    have := dd_len 19 n (by omega) (by omega)
    rw [← h2] at this
    omega
theorem valF_lt : ∀ (l : List UInt8) (acc : Nat), (∀ b ∈ l, isDig b = true) → valF acc l + 1 ≤ (acc + 1) * 10 ^ l.length
  | [], acc, _ => by rw [valF_nil]; simp
  | b :: r, acc, h => by
    have hb := dig_range (h b (by simp))
    have h1 := valF_lt r (acc * 10 + (b.toNat - 48)) (fun x hx => h x (List.mem_cons_of_mem _ hx))
    rw [valF_cons, List.length_cons, Nat.pow_succ]
    have h2 : (acc * 10 + (b.toNat - 48) + 1) * 10 ^ r.length ≤ (acc * 10 + 10) * 10 ^ r.length := Nat.mul_le_mul_right _ (by omega)
    have h3 : (acc * 10 + 10) * 10 ^ r.length = (acc + 1) * (10 ^ r.length * 10) := by
      rw [show acc * 10 + 10 = (acc + 1) * 10 by omega, Nat.mul_assoc, Nat.mul_comm 10]
    omega
theorem val_wrap (V : Nat) (c : Nat) (hc : 48 ≤ c) : wrap64 (wrap64 (wrap64 (wrap64 (V : Int) * 10) + (c : Int)) - 48) = wrap64 ((V * 10 + (c - 48) : Nat) : Int) := by
  simp only [wrap64]
  omega
theorem take_snoc_b (l : List UInt8) {k : Nat} (h : k < l.length) : l.take (k + 1) = l.take k ++ [l.getD k 0] := by
  rw [List.take_add_one, List.getElem?_eq_getElem h, List.getD_eq_getElem?_getD, List.getElem?_eq_getElem h]
  rfl
theorem numL_bad {l : List UInt8} {k : Nat} (h : k < l.length) (hb : isDig (l.getD k 0) = false) : numL l = none := by
  unfold numL
  rw [if_neg]
  rintro ⟨hp, _⟩
  have := (plain_spec.1 hp).2.2 (l.getD k 0) (by rw [List.getD_eq_getElem?_getD, List.getElem?_eq_getElem h]; simp)
  rw [hb] at this
  cases this
theorem isDig_false {b : UInt8} (h : isDig b = false) : (b.toNat : Int) < 48 ∨ ¬ (b.toNat : Int) < 48 ∧ (57 : Int) < b.toNat := by
  unfold isDig at h
  by_cases h1 : 48 ≤ b.toNat
  · right
    rw [decide_eq_true h1, Bool.true_and, decide_eq_false_iff_not] at h
    omega
  · left; omega
theorem toList_data'' (s : ByteArray) : s.toList = s.data.toList := Lib.toList_data s
theorem wrap_big {n : Int} (h1 : 9223372036854775808 ≤ n) (h2 : n < 18446744073709551616) : wrap64 n = n - 18446744073709551616 := by
  simp only [wrap64]
  omega
set_option maxRecDepth 100000 in
set_option maxHeartbeats 1000000 in
theorem RNumber_any (s : ByteArray) (w : World) (hs : s.size ≤ 100000) :
    Calls Tryz.prog 31 #[.string s] w fun e w' => (∃ v : Int, e = .returned (.tuple #[.int .i64 v, .bool (numL s.data.toList).isSome]) ∧ ∀ n, numL s.data.toList = some n → v = n) ∧ Below w.heap.size w w' := by
  by_cases h0 : s.size = 0
  · have hN : numL s.data.toList = none := by
      have : s.data.toList = [] := List.eq_nil_of_length_eq_zero (by rw [size_list]; exact h0)
      rw [this]; rfl
    rw [hN]
    have h0i : ((s.size : Int) == 0) = true := by simp [h0]
    clear h0 hN
    go_enter Tryz.func31, Tryz.ntmps31
    go_wp2_with fail
    go_ret2
    exact ⟨⟨0, rfl, fun n h => by cases h⟩, Below.refl _ _⟩
  · have h0i : ((s.size : Int) == 0) = false := beq_eq_false_iff_ne.2 (by omega)
    by_cases h19 : 19 < s.size
    · have hN : numL s.data.toList = none := numL_long (by rw [size_list]; exact h19)
      rw [hN]
      have h19i : (19 : Int) < s.size := by omega
      clear h0 hN h19
      go_enter Tryz.func31, Tryz.ntmps31
      go_wp2_with fail
      go_ret2
      exact ⟨⟨0, rfl, fun n h => by cases h⟩, Below.refl _ _⟩
    · have h19i : ¬ (19 : Int) < s.size := by omega
      obtain ⟨l, hl⟩ : ∃ l, l = s.data.toList := ⟨_, rfl⟩
      have HL := Lib.hid hl
      have hll : l.length = s.size := by rw [hl, size_list]
      have HLL := Lib.hid hll
      rw [← hl]
      clear hl hll
      go_enter Tryz.func31, Tryz.ntmps31
      go_wp2_with fail
      go_loopg [4, 5] (s.size + 1) (fun g v i wr => ∃ k : Nat, k ≤ s.size ∧ s.size - k < g ∧ v = .int .i64 (wrap64 ((valF 0 (l.take k) : Nat) : Int)) ∧ i = .int .i64 k ∧ (∀ b ∈ l.take k, isDig b = true) ∧ wr = w)
      case atStart => exact ⟨0, by omega, by omega, by rw [List.take_zero, valF_nil, wrap_in (by omega) (by omega)]; rfl, rfl, (fun b hb => by simp at hb), rfl⟩
      case round =>
        obtain ⟨k, hk, hg, rfl, rfl, hdig, rfl⟩ := hrel
        by_cases hlt : k < s.size
        · have hki : (k : Int) < s.size := by omega
          have hk0 : (0 : Int) ≤ k := by omega
          have hbk := byte_at (l := l) HL.out rfl hlt
          have htk := take_snoc_b l (k := k) (by rw [HLL.out]; exact hlt)
          rw [← hbk] at htk
          cases hd : isDig (s[k]'hlt) with
          | false =>
            have hN := numL_bad (l := l) (k := k) (by rw [HLL.out]; exact hlt) (by rw [← hbk]; exact hd)
            have HN := Lib.hid hN
            rcases isDig_false hd with hlo | ⟨hlo, hhi⟩
            all_goals
              clear hN hd htk hbk hdig
              go_wp2_with fail
              go_ret2
              rw [HN.out]
              exact ⟨⟨0, rfl, fun n h => by cases h⟩, Below.refl _ _⟩
          | true =>
            have hr := dig_range hd
            have hlo : ¬ ((s[k]'hlt).toNat : Int) < 48 := by omega
            have hhi : ¬ (57 : Int) < ((s[k]'hlt).toNat : Int) := by omega
            have hw := val_wrap (valF 0 (l.take k)) (s[k]'hlt).toNat hr.1
            rw [← valF_snoc, ← htk] at hw
            have HW := Lib.hid hw
            have HDG := Lib.hid (show ∀ b ∈ l.take (k + 1), isDig b = true from fun b hb => by
              rw [htk] at hb
              rcases List.mem_append.1 hb with hb | hb
              · exact hdig b hb
              · obtain rfl := List.mem_singleton.1 hb; exact hd)
            clear hw hd htk hbk hdig hr
            go_wp2_with fail
            go_roundg (s.size - k)
            case measure => omega
            case rel =>
              refine ⟨k + 1, by omega, by omega, ?_, by go_num, HDG.out, rfl⟩
              rw [← HW.out]
        · obtain rfl : k = s.size := by omega
          have htk : l.take s.size = l := List.take_of_length_le (by rw [HLL.out]; exact Nat.le_refl _)
          rw [htk] at hdig ⊢
          have hV := valF_lt l 0 hdig
          have h19' : (10 : Nat) ^ l.length ≤ 10 ^ 19 := Nat.pow_le_pow_right (by omega) (by rw [HLL.out]; omega)
          have hne : l ≠ [] := fun e => h0 (by rw [← HLL.out, e]; rfl)
          have hpl : Lib.decDigits (valF 0 l) = l ↔ plainL l = true := ⟨fun h => by rw [← h]; exact plain_dd _, fun h => dd_plain _ l rfl h⟩
          by_cases hb : valF 0 l < 9223372036854775808
          · have hw : wrap64 ((valF 0 l : Nat) : Int) = (valF 0 l : Nat) := wrap_in (by omega) (by omega)
            have hD := fun W => Digits_any (valF 0 l) W (by omega)
            have hds : dig ((valF 0 l : Nat) : Int) = s ↔ plainL l = true := by
              rw [← hpl]
              constructor
              · intro h; rw [← dig_list, h, ← HL.out]
              · intro h
                apply ByteArray.ext
                apply Array.ext'
                rw [← HL.out]
                exact (dig_list _).trans h
            rw [hw]
            have hN : numL l = if plainL l = true then some (valF 0 l) else none := by
              unfold numL
              by_cases hp : plainL l = true
              · rw [if_pos ⟨hp, hb⟩, if_pos hp]
              · rw [if_neg (fun h => hp h.1), if_neg hp]
            have HN := Lib.hid hN
            generalize valF 0 l = V at *
            have hv0 : (0 : Int) ≤ (V : Int) := by omega
            clear hw hpl hdig htk hV h19' hN
            cases hp : plainL l with
            | true =>
              have he := hds.2 hp
              have HP := Lib.hid hp
              rw [he] at hD
              clear hds hp
              go_wp2_with fail
              go_at_call 11
              refine (hD _).mono ?_
              rintro e w2 ⟨rfl, hb2⟩
              go_wp2_with fail
              go_ret2
              rw [HN.out, HP.out]
              exact ⟨⟨V, rfl, fun n h => by cases h; rfl⟩, hb2⟩
            | false =>
              have he : dig (V : Int) ≠ s := fun h => by rw [hds.1 h] at hp; cases hp
              have heb : ((dig (V : Int)).toList == s.toList) = false := by
                rw [toList_data'', toList_data'']
                exact beq_eq_false_iff_ne.2 (fun h => he (by apply ByteArray.ext; apply Array.ext'; exact h))
              have HP := Lib.hid hp
              clear hds hp
              go_wp2_with fail
              go_at_call 11
              refine (hD _).mono ?_
              rintro e w2 ⟨rfl, hb2⟩
              go_wp2_with fail
              go_ret2
              rw [HN.out, HP.out]
              exact ⟨⟨V, rfl, fun n h => by cases h⟩, hb2⟩
          · have hN : numL l = none := by unfold numL; rw [if_neg (fun h => hb h.2)]
            have hw : wrap64 ((valF 0 l : Nat) : Int) < 0 := by
              rw [wrap_big (by omega) (by omega)]
              omega
            have HN := Lib.hid hN
            generalize wrap64 ((valF 0 l : Nat) : Int) = V at *
            have hv0 : ¬ (0 : Int) ≤ V := by omega
            clear hpl hdig htk hV h19' hN hb
            go_wp2_with fail
            go_ret2
            rw [HN.out]
            exact ⟨⟨V, rfl, fun n h => by cases h⟩, Below.refl _ _⟩
end Go.Proofs.YtokneabcgmjhdaaGreatDoor
