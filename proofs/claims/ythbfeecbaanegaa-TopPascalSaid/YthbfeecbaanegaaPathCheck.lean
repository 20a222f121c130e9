/- Contracts of num.First (of two errors), paths.rising, paths.Check. -/
import Derived.Test.YthbfeecbaanegaaFirst
import Derived.Test.YthbfeecbaanegaaPathMath
import Derived.Deep.LoopGhost
namespace Go.Proofs.Ythbfeecbaanegaa
open Go.RowKit
set_option linter.unusedVariables false
set_option linter.unusedSimpArgs false

set_option maxHeartbeats 1000000 in
theorem rising_any (a : Option Addr) (n cap : Nat) (l : List Int) (w : World) (hl : IntsAt w a n l) (hn : n ≤ 9223372036854775807) :
    Calls Try.prog 17 #[.slice a n cap] w fun e w' => e = .returned (errV (riseErr l)) ∧ w = w' := by
  obtain ⟨hlen, hc⟩ := hl
  have HLEN := Lib.hid hlen
  have HC := Lib.hid hc
  clear hlen hc
  go_enter Try.func17, Try.ntmps17
  go_wp2_with fail
  go_loopg [7] (n + 1) (fun g i wr => ∃ k : Nat, k ≤ n ∧ n - k < g ∧ i = .int .i64 k ∧ riseErr l = riseFrom (prevH l k) (l.drop k) ∧ wr = w)
  case atStart => exact ⟨0, by omega, by omega, rfl, rfl, rfl⟩
  case round =>
    obtain ⟨k, hk, hg, rfl, hr, rfl⟩ := hrel
    have HR := Lib.hid hr
    clear hr
    by_cases hlt : k < n
    · obtain ⟨b, off, rfl, hcell⟩ := HC.out k hlt
      obtain ⟨x, hx⟩ : ∃ x, x = l.getD k 0 := ⟨_, rfl⟩
      rw [← hx] at hcell
      have HX := Lib.hid hx
      have hkl : k < l.length := by rw [HLEN.out]; exact hlt
      clear hx
      cases ho : outB 0 6 x
      · have hxb : 0 ≤ x ∧ x ≤ 6 := by simp [outB] at ho; omega
        have HO := Lib.hid ho
        obtain ⟨hx0, hx6⟩ := hxb
        by_cases hk0 : k = 0
        · subst hk0
          rw [Nat.add_zero] at hcell
          have hon := rise_on hkl HR.out (by rw [← HX.out]; exact HO.out) (by rw [← HX.out]; unfold prevH; simp; omega)
          have HON := Lib.hid hon
          clear hon
          go_wp2_with (go_at_call 8; refine (Out_any' _ _ _ _).mono ?_; rintro e w' ⟨rfl, rfl⟩)
          go_roundg n
          case measure => omega
          case rel => exact ⟨1, by omega, by omega, rfl, HON.out, rfl⟩
        · obtain ⟨q, rfl⟩ : ∃ q, k = q + 1 := ⟨k - 1, by omega⟩
          obtain ⟨b', off', e, hcell'⟩ := HC.out q (by omega)
          obtain ⟨rfl, rfl⟩ : b = b' ∧ off = off' := by simpa using e
          obtain ⟨y, hy⟩ : ∃ y, y = l.getD q 0 := ⟨_, rfl⟩
          rw [← hy] at hcell'
          have hpv : prevH l (q + 1) = y := by unfold prevH; rw [if_neg (by omega), hy]; rfl
          have HPV := Lib.hid hpv
          have hq0 : (0 : Int) ≤ q := by omega
          have hq1 : (q : Int) < n := by omega
          have hq2 : (0 : Int) < (q : Int) + 1 := by omega
          clear hy hpv hk0
          by_cases hxy : x ≤ y
          · have hlow := rise_low hkl HR.out (by rw [← HX.out]; exact HO.out) (by rw [← HX.out, HPV.out]; exact hxy)
            have HLOW := Lib.hid hlow
            clear hlow
            go_wp2_with (go_at_call 8; refine (Out_any' _ _ _ _).mono ?_; rintro e w' ⟨rfl, rfl⟩)
            go_ret
            exact ⟨by rw [HLOW.out]; rfl, rfl⟩
          · have hon := rise_on hkl HR.out (by rw [← HX.out]; exact HO.out) (by rw [← HX.out, HPV.out]; exact hxy)
            have HON := Lib.hid hon
            have hyx : y < x := by omega
            clear hon hxy
            go_wp2_with (go_at_call 8; refine (Out_any' _ _ _ _).mono ?_; rintro e w' ⟨rfl, rfl⟩)
            go_roundg (n - (q + 1))
            case measure => omega
            case rel => exact ⟨q + 1 + 1, by omega, by omega, by go_num, HON.out, rfl⟩
      · have hout := rise_out hkl HR.out (by rw [← HX.out]; exact ho)
        have HOUT := Lib.hid hout
        clear hout
        go_wp2_with (go_at_call 8; refine (Out_any' _ _ _ _).mono ?_; rintro e w' ⟨rfl, rfl⟩)
        go_ret
        exact ⟨by rw [HOUT.out]; rfl, rfl⟩
    · obtain rfl : k = n := by omega
      have hend : riseErr l = 0 := by
        have := HR.out
        rw [← HLEN.out] at this
        exact rise_end this
      have HEND := Lib.hid hend
      clear hend
      go_wp2_with fail
      go_ret
      exact ⟨by rw [HEND.out]; rfl, rfl⟩

set_option maxHeartbeats 1000000 in
theorem PathCheck_any (width : Int) (a b : Option Addr) (n m cap cap' : Nat) (f t : List Int) (w : World) (hf : IntsAt w a n f) (ht : IntsAt w b m t) (hn : n ≤ 9223372036854775807) (hm : m ≤ 9223372036854775807) :
    Calls Try.prog 10 #[.int .i64 width, .slice a n cap, .slice b m cap'] w fun e w' => e = .returned (errV (pathErr width f t)) ∧ Below w.heap.size w w' := by
  have hfl := hf.1
  have htl := ht.1
  have R1 := rising_any a n cap f w hf hn
  have R2 := rising_any b m cap' t w ht hm
  clear hf ht
  cases ho : outB 0 4 width
  · by_cases h0 : n = 0
    · have hv : pathErr width f t = 5 := by unfold pathErr; rw [if_neg (by rw [ho]; decide), if_pos (by omega)]
      rw [hv, errV_pos (by decide)]
      subst h0
      clear hv R1 R2 hfl htl
      go_enter Try.func10, Try.ntmps10
      go_wp2_with fail
      go_at_call 8
      refine (Out_any' _ _ _ _).mono ?_
      rintro e w1 ⟨rfl, rfl⟩
      go_wp2_with fail
      go_ret
      exact ⟨rfl, Below.refl _ _⟩
    · have h0b : ((n : Int) == 0) = false := by simp; omega
      by_cases h3 : 3 < n
      · have hv : pathErr width f t = 4 := by unfold pathErr; rw [if_neg (by rw [ho]; decide), if_neg (by omega), if_pos (by omega)]
        rw [hv, errV_pos (by decide)]
        have h3i : (3 : Int) < n := by omega
        clear hv R1 R2 hfl htl h3 h0
        go_enter Try.func10, Try.ntmps10
        go_wp2_with fail
        go_at_call 8
        refine (Out_any' _ _ _ _).mono ?_
        rintro e w1 ⟨rfl, rfl⟩
        go_wp2_with fail
        go_ret
        exact ⟨rfl, Below.refl _ _⟩
      · have h3i : (n : Int) ≤ 3 := by omega
        by_cases hmn : m = n
        · have hmb : ((m : Int) != (n : Int)) = false := by simp [hmn]
          have hv : pathErr width f t = if riseErr f ≠ 0 then riseErr f else riseErr t := by
            unfold pathErr; rw [if_neg (by rw [ho]; decide), if_neg (by omega), if_neg (by omega), if_neg (by omega)]
          rw [hv]
          generalize riseErr f = x at *
          generalize riseErr t = y at *
          have HMN := Lib.hid hmn
          obtain ⟨r, hr⟩ : ∃ r, r = if x ≠ 0 then x else y := ⟨_, rfl⟩
          rw [← hr]
          have HR := Lib.hid hr
          clear hv hfl htl hmn h3 h0 hr
          have hxe : errV x = .nilIface ∨ errV x = .iface 31 (.int .i64 x) := by unfold errV; by_cases h : x = 0 <;> simp [h]
          have hye : errV y = .nilIface ∨ errV y = .iface 31 (.int .i64 y) := by unfold errV; by_cases h : y = 0 <;> simp [h]
          rcases hxe with hxe | hxe <;> rcases hye with hye | hye
          all_goals
            rw [hxe] at R1
            rw [hye] at R2
            have HX := Lib.hid hxe
            have HY := Lib.hid hye
            clear hxe hye
            go_enter Try.func10, Try.ntmps10
            go_wp2_with fail
            go_at_call 8
            refine (Out_any' _ _ _ _).mono ?_
            rintro e w1 ⟨rfl, rfl⟩
            go_wp2_with fail
            go_at_call 17
            refine (R1).mono ?_
            rintro e w1 ⟨rfl, rfl⟩
            go_wp2_with fail
            go_at_call 17
            refine (R2).mono ?_
            rintro e w1 ⟨rfl, rfl⟩
            go_wp2_with fail
            go_at_call 16
            refine (First_two _ x y _ (by rw [HX.out]; go_simp) (by rw [HY.out]; go_simp)).mono ?_
            rintro e w1 ⟨rfl, rfl⟩
            rw [← HR.out]
            go_wp2_with fail
            go_ret
            exact ⟨rfl, (Below.refl _ _).alloc (Nat.le_refl _) _⟩
        · have hmb : ((m : Int) != (n : Int)) = true := by simp; omega
          have hv : pathErr width f t = 3 := by unfold pathErr; rw [if_neg (by rw [ho]; decide), if_neg (by omega), if_neg (by omega), if_pos (by omega)]
          rw [hv, errV_pos (by decide)]
          clear hv R1 R2 hfl htl hmn h3 h0
          go_enter Try.func10, Try.ntmps10
          go_wp2_with fail
          go_at_call 8
          refine (Out_any' _ _ _ _).mono ?_
          rintro e w1 ⟨rfl, rfl⟩
          go_wp2_with fail
          go_ret
          exact ⟨rfl, Below.refl _ _⟩
  · have hv : pathErr width f t = 1 := by unfold pathErr; rw [if_pos ho]
    rw [hv, errV_pos (by decide)]
    clear hv R1 R2 hfl htl
    go_enter Try.func10, Try.ntmps10
    go_wp2_with fail
    go_at_call 8
    refine (Out_any' _ _ _ _).mono ?_
    rintro e w1 ⟨rfl, rfl⟩
    go_wp2_with fail
    go_ret
    exact ⟨rfl, Below.refl _ _⟩
end Go.Proofs.Ythbfeecbaanegaa
