/- Contract of the reference's Heights. -/
import Derived.Test.YtbojcbpmalgdlaaDoorPathMath
import Derived.Test.YtbojcbpmalgdlaaDoorLawIn
import Derived.Deep.LoopGhost
import Derived.BigQuiet
import Derived.Deep.QuietTactic
namespace Go.Proofs.YtbojcbpmalgdlaaDoor
open Go.RowKit
set_option linter.unusedVariables false
set_option linter.unusedSimpArgs false

theorem below_drewN (w : World) (n : Nat) : Below w.heap.size w (w.drewN n) := ⟨rfl, rfl, rfl, Nat.le_refl _, fun _ _ => rfl⟩
theorem in3_any (n lo hi : Int) (w : World) :
    Calls Tryd.prog 12 #[.int .i64 n, .int .i64 lo, .int .i64 hi] w fun e w' => e = .returned (.bool (inB n lo hi)) ∧ w = w' := by
  by_cases h1 : lo ≤ n <;> by_cases h2 : n ≤ hi
  all_goals
    go_enter Tryd.func12, Tryd.ntmps12
    go_wp2
    go_ret
    exact ⟨ret_bool (by simp [inB, h1, h2]), rfl⟩

set_option maxHeartbeats 2000000 in
theorem HHeights_lists (width : Int) (a b : Option Addr) (n cap cap' : Nat) (f t : List Int) (w : World) (hf : IntsAt w a n f) (ht : IntsAt w b n t) (h0 : 0 < n) (h3 : n ≤ 3) (ho : outB 0 4 width = false) :
    Calls Tryd.prog 4 #[.int .i64 width, .slice a n cap, .slice b n cap'] w fun e w' => e = .returned (.int .i64 (pathErr width f t)) ∧ Below w.heap.size w w' := by
  have hv : pathErr width f t = if riseErr f ≠ 0 then riseErr f else riseErr t := by
    have h1 := hf.1
    have h2 := ht.1
    unfold pathErr; rw [if_neg (by rw [ho]; decide), if_neg (by omega), if_neg (by omega), if_neg (by omega)]
  have he1 : ∀ {x : Int}, riseErr f = x → (x = 1 ∨ x = 3) → pathErr width f t = x := by intro x h hx; rw [hv, if_pos (by omega)]; exact h
  have he2 : ∀ {x : Int}, riseErr f = 0 → riseErr t = x → pathErr width f t = x := by intro x h hx; rw [hv, if_neg (by omega)]; exact hx
  have he0 : riseErr f = 0 → riseErr t = 0 → pathErr width f t = 0 := fun h1 h2 => he2 h1 h2
  have hin0 : inB width 0 4 = true := by rw [inB_out, ho]; rfl
  have HF := Lib.hid hf
  have HT := Lib.hid ht
  have HE1a := Lib.hid (show riseErr f = 1 → pathErr width f t = 1 from fun h => he1 h (Or.inl rfl))
  have HE1b := Lib.hid (show riseErr f = 3 → pathErr width f t = 3 from fun h => he1 h (Or.inr rfl))
  have HE2a := Lib.hid (show riseErr f = 0 → riseErr t = 1 → pathErr width f t = 1 from fun h h2 => he2 h h2)
  have HE2b := Lib.hid (show riseErr f = 0 → riseErr t = 3 → pathErr width f t = 3 from fun h h2 => he2 h h2)
  have HE0 := Lib.hid he0
  have hni : ((n : Int) == 0) = false := by simp; omega
  have h3i : (n : Int) ≤ 3 := by omega
  clear hf ht hv he1 he2 he0 ho
  go_enter Tryd.func4, Tryd.ntmps4
  go_wp2_with fail
  go_at_call 12
  refine (in3_any _ _ _ _).mono ?_
  rintro e w1 ⟨rfl, rfl⟩
  rw [hin0]
  go_wp2_with fail
  go_loopg [7] 3 (fun g i wr => (2 < g + 0 ∧ i = .int .i64 0 ∧ Below w.heap.size w wr) ∨ (1 < g ∧ i = .int .i64 1 ∧ riseErr f = 0 ∧ Below w.heap.size w wr) ∨ (0 < g ∧ i = .int .i64 2 ∧ riseErr f = 0 ∧ riseErr t = 0 ∧ Below w.heap.size w wr))
  case atStart => exact .inl ⟨by omega, rfl, Below.refl _ _⟩
  case round =>
    obtain (⟨hg, rfl, hbel⟩ | ⟨hg, rfl, hf0, hbel⟩ | ⟨hg, rfl, hf0, ht0, hbel⟩) := hrel
    · go_wp2_with fail
      go_loopg [9] (n + 1) (fun g i wr => ∃ k : Nat, k ≤ n ∧ n - k < g ∧ i = .int .i64 k ∧ riseErr f = riseFrom (prevH f k) (f.drop k) ∧ Below w.heap.size w wr)
      case atStart => exact ⟨0, by omega, by omega, rfl, rfl, hbel⟩
      case round =>
        obtain ⟨k, hk, hg, rfl, hr, hbel⟩ := hrel
        have HRI := Lib.hid hr
        clear hr
        by_cases hlt : k < n
        · obtain ⟨bb, off, ea, hbb, hcs⟩ := (HF.out.call hbel).some (by omega)
          subst ea
          obtain ⟨x, hx⟩ : ∃ x, x = f.getD k 0 := ⟨_, rfl⟩
          have hcell := hcs k hlt
          rw [← hx] at hcell
          have HX := Lib.hid hx
          have hkl : k < f.length := by rw [HF.out.1]; exact hlt
          have hki : (k : Int) < n := by omega
          clear hx
          cases ho : outB 0 6 x
          · have hxb : 0 ≤ x ∧ x ≤ 6 := by simp [outB] at ho; omega
            have HO := Lib.hid ho
            have hin : inB x 0 6 = true := inB_yes hxb.1 hxb.2
            clear ho
            by_cases hk0 : k = 0
            · subst hk0
              rw [Nat.add_zero] at hcell
              have hon := rise_on hkl HRI.out (by rw [← HX.out]; exact HO.out) (by rw [← HX.out]; unfold prevH; simp; omega)
              have HON := Lib.hid hon
              have HBE := Lib.hid hbel
              clear hon hxb hcs hbel
              go_wp2_with (go_at_call 12; refine (in3_any _ _ _ _).mono ?_; rintro e w' ⟨rfl, rfl⟩; rw [hin])
              go_quiet (fail)
              have hbe := below_trans HBE.out (below_drewN wr nq)
              go_wp2_with fail
              go_roundg n
              case measure => omega
              case rel => exact ⟨1, by omega, by omega, rfl, HON.out, hbe⟩
            · obtain ⟨q, rfl⟩ : ∃ q, k = q + 1 := ⟨k - 1, by omega⟩
              have hcell' := hcs q (by omega)
              obtain ⟨y, hy⟩ : ∃ y, y = f.getD q 0 := ⟨_, rfl⟩
              rw [← hy] at hcell'
              have hpv : prevH f (q + 1) = y := by unfold prevH; rw [if_neg (by omega), hy]; rfl
              have HPV := Lib.hid hpv
              have hq0 : (0 : Int) ≤ q := by omega
              have hq1 : (q : Int) < n := by omega
              have hq2 : (0 : Int) < (q : Int) + 1 := by omega
              have hq3 : (0 : Int) ≤ (q : Int) + 1 := by omega
              have hq4 : (q : Int) + 1 < n := by omega
              have hq5 : ((q : Int) + 1).toNat = q + 1 := by omega
              have HBE := Lib.hid hbel
              clear hy hpv hk0 hcs
              by_cases hxy : x ≤ y
              · have hlow := rise_low hkl HRI.out (by rw [← HX.out]; exact HO.out) (by rw [← HX.out, HPV.out]; exact hxy)
                have HLOW := Lib.hid (show riseErr f = 3 from hlow)
                have HPE := Lib.hid (HE1b.out HLOW.out)
                clear hlow hxb hbel
                go_wp2_with (go_at_call 12; refine (in3_any _ _ _ _).mono ?_; rintro e w' ⟨rfl, rfl⟩; rw [hin])
                go_quiet (fail)
                have hbe := below_trans HBE.out (below_drewN wr nq)
                go_wp2_with fail
                go_ret
                exact ⟨ret_int HPE.out.symm, hbe⟩
              · have hon := rise_on hkl HRI.out (by rw [← HX.out]; exact HO.out) (by rw [← HX.out, HPV.out]; exact hxy)
                have HON := Lib.hid hon
                have hyx : y < x := by omega
                clear hon hxy hxb hbel
                go_wp2_with (go_at_call 12; refine (in3_any _ _ _ _).mono ?_; rintro e w' ⟨rfl, rfl⟩; rw [hin])
                go_quiet (fail)
                have hbe := below_trans HBE.out (below_drewN wr nq)
                go_wp2_with fail
                go_roundg (n - (q + 1))
                case measure => omega
                case rel => exact ⟨q + 1 + 1, by omega, by omega, by go_num, HON.out, hbe⟩
          · have hout := rise_out hkl HRI.out (by rw [← HX.out]; exact ho)
            have HPE := Lib.hid (HE1a.out hout)
            have hin : inB x 0 6 = false := by rw [inB_out, ho]; rfl
            clear hout ho hcs
            go_wp2_with (go_at_call 12; refine (in3_any _ _ _ _).mono ?_; rintro e w' ⟨rfl, rfl⟩; rw [hin])
            go_ret
            exact ⟨ret_int HPE.out.symm, hbel⟩
        · obtain rfl : k = n := by omega
          have hend : riseErr f = 0 := by
            have := HRI.out
            rw [← HF.out.1] at this
            exact rise_end this
          have HEND := Lib.hid hend
          clear hend
          go_wp2_with fail
          go_roundg 2
          case measure => omega
          case rel => exact .inr (.inl ⟨by omega, rfl, HEND.out, hbel⟩)
    · have HF0 := Lib.hid hf0
      clear hf0
      go_wp2_with fail
      go_loopg [9] (n + 1) (fun g i wr => ∃ k : Nat, k ≤ n ∧ n - k < g ∧ i = .int .i64 k ∧ riseErr t = riseFrom (prevH t k) (t.drop k) ∧ Below w.heap.size w wr)
      case atStart => exact ⟨0, by omega, by omega, rfl, rfl, hbel⟩
      case round =>
        obtain ⟨k, hk, hg, rfl, hr, hbel⟩ := hrel
        have HRI := Lib.hid hr
        clear hr
        by_cases hlt : k < n
        · obtain ⟨bb, off, ea, hbb, hcs⟩ := (HT.out.call hbel).some (by omega)
          subst ea
          obtain ⟨x, hx⟩ : ∃ x, x = t.getD k 0 := ⟨_, rfl⟩
          have hcell := hcs k hlt
          rw [← hx] at hcell
          have HX := Lib.hid hx
          have hkl : k < t.length := by rw [HT.out.1]; exact hlt
          have hki : (k : Int) < n := by omega
          clear hx
          cases ho : outB 0 6 x
          · have hxb : 0 ≤ x ∧ x ≤ 6 := by simp [outB] at ho; omega
            have HO := Lib.hid ho
            have hin : inB x 0 6 = true := inB_yes hxb.1 hxb.2
            clear ho
            by_cases hk0 : k = 0
            · subst hk0
              rw [Nat.add_zero] at hcell
              have hon := rise_on hkl HRI.out (by rw [← HX.out]; exact HO.out) (by rw [← HX.out]; unfold prevH; simp; omega)
              have HON := Lib.hid hon
              have HBE := Lib.hid hbel
              clear hon hxb hcs hbel
              go_wp2_with (go_at_call 12; refine (in3_any _ _ _ _).mono ?_; rintro e w' ⟨rfl, rfl⟩; rw [hin])
              go_quiet (fail)
              have hbe := below_trans HBE.out (below_drewN wr nq)
              go_wp2_with fail
              go_roundg n
              case measure => omega
              case rel => exact ⟨1, by omega, by omega, rfl, HON.out, hbe⟩
            · obtain ⟨q, rfl⟩ : ∃ q, k = q + 1 := ⟨k - 1, by omega⟩
              have hcell' := hcs q (by omega)
              obtain ⟨y, hy⟩ : ∃ y, y = t.getD q 0 := ⟨_, rfl⟩
              rw [← hy] at hcell'
              have hpv : prevH t (q + 1) = y := by unfold prevH; rw [if_neg (by omega), hy]; rfl
              have HPV := Lib.hid hpv
              have hq0 : (0 : Int) ≤ q := by omega
              have hq1 : (q : Int) < n := by omega
              have hq2 : (0 : Int) < (q : Int) + 1 := by omega
              have hq3 : (0 : Int) ≤ (q : Int) + 1 := by omega
              have hq4 : (q : Int) + 1 < n := by omega
              have hq5 : ((q : Int) + 1).toNat = q + 1 := by omega
              have HBE := Lib.hid hbel
              clear hy hpv hk0 hcs
              by_cases hxy : x ≤ y
              · have hlow := rise_low hkl HRI.out (by rw [← HX.out]; exact HO.out) (by rw [← HX.out, HPV.out]; exact hxy)
                have HLOW := Lib.hid (show riseErr t = 3 from hlow)
                have HPE := Lib.hid (HE2b.out HF0.out HLOW.out)
                clear hlow hxb hbel
                go_wp2_with (go_at_call 12; refine (in3_any _ _ _ _).mono ?_; rintro e w' ⟨rfl, rfl⟩; rw [hin])
                go_quiet (fail)
                have hbe := below_trans HBE.out (below_drewN wr nq)
                go_wp2_with fail
                go_ret
                exact ⟨ret_int HPE.out.symm, hbe⟩
              · have hon := rise_on hkl HRI.out (by rw [← HX.out]; exact HO.out) (by rw [← HX.out, HPV.out]; exact hxy)
                have HON := Lib.hid hon
                have hyx : y < x := by omega
                clear hon hxy hxb hbel
                go_wp2_with (go_at_call 12; refine (in3_any _ _ _ _).mono ?_; rintro e w' ⟨rfl, rfl⟩; rw [hin])
                go_quiet (fail)
                have hbe := below_trans HBE.out (below_drewN wr nq)
                go_wp2_with fail
                go_roundg (n - (q + 1))
                case measure => omega
                case rel => exact ⟨q + 1 + 1, by omega, by omega, by go_num, HON.out, hbe⟩
          · have hout := rise_out hkl HRI.out (by rw [← HX.out]; exact ho)
            have HPE := Lib.hid (HE2a.out HF0.out hout)
            have hin : inB x 0 6 = false := by rw [inB_out, ho]; rfl
            clear hout ho hcs
            go_wp2_with (go_at_call 12; refine (in3_any _ _ _ _).mono ?_; rintro e w' ⟨rfl, rfl⟩; rw [hin])
            go_ret
            exact ⟨ret_int HPE.out.symm, hbel⟩
        · obtain rfl : k = n := by omega
          have hend : riseErr t = 0 := by
            have := HRI.out
            rw [← HT.out.1] at this
            exact rise_end this
          have HEND := Lib.hid hend
          clear hend
          go_wp2_with fail
          go_roundg 1
          case measure => omega
          case rel => exact .inr (.inr ⟨by omega, rfl, HF0.out, HEND.out, hbel⟩)
    · have HZ := Lib.hid (HE0.out hf0 ht0)
      clear hf0 ht0
      go_wp2_with fail
      go_ret
      exact ⟨ret_int HZ.out.symm, hbel⟩

theorem HHeights_any (width : Int) (a b : Option Addr) (n m cap cap' : Nat) (f t : List Int) (w : World) (hf : IntsAt w a n f) (ht : IntsAt w b m t) (hn : n ≤ 9223372036854775807) (hm : m ≤ 9223372036854775807) :
    Calls Tryd.prog 4 #[.int .i64 width, .slice a n cap, .slice b m cap'] w fun e w' => e = .returned (.int .i64 (pathErr width f t)) ∧ Below w.heap.size w w' := by
  have hfl := hf.1
  have htl := ht.1
  cases ho : outB 0 4 width
  · have hin : inB width 0 4 = true := by rw [inB_out, ho]; rfl
    by_cases h0 : n = 0
    · have hv : pathErr width f t = 5 := by unfold pathErr; rw [if_neg (by rw [ho]; decide), if_pos (by omega)]
      rw [hv]
      subst h0
      clear hv hfl htl hf ht ho
      go_enter Tryd.func4, Tryd.ntmps4
      go_wp2_with fail
      go_at_call 12
      refine (in3_any _ _ _ _).mono ?_
      rintro e w1 ⟨rfl, rfl⟩
      rw [hin]
      go_wp2_with fail
      go_ret
      exact ⟨rfl, Below.refl _ _⟩
    · have h0b : ((n : Int) == 0) = false := by simp; omega
      by_cases h3 : 3 < n
      · have hv : pathErr width f t = 4 := by unfold pathErr; rw [if_neg (by rw [ho]; decide), if_neg (by omega), if_pos (by omega)]
        rw [hv]
        have h3i : (3 : Int) < n := by omega
        clear hv hfl htl h3 h0 hf ht ho
        go_enter Tryd.func4, Tryd.ntmps4
        go_wp2_with fail
        go_at_call 12
        refine (in3_any _ _ _ _).mono ?_
        rintro e w1 ⟨rfl, rfl⟩
        rw [hin]
        go_wp2_with fail
        go_ret
        exact ⟨rfl, Below.refl _ _⟩
      · have h3i : (n : Int) ≤ 3 := by omega
        by_cases hmn : m = n
        · subst hmn
          exact HHeights_lists width a b m cap cap' f t w hf ht (by omega) (by omega) ho
        · have hv : pathErr width f t = 3 := by unfold pathErr; rw [if_neg (by rw [ho]; decide), if_neg (by omega), if_neg (by omega), if_pos (by omega)]
          rw [hv]
          have hmb : ((n : Int) != (m : Int)) = true := by simp; omega
          clear hv hfl htl h3 h0 hf ht ho hmn
          go_enter Tryd.func4, Tryd.ntmps4
          go_wp2_with fail
          go_at_call 12
          refine (in3_any _ _ _ _).mono ?_
          rintro e w1 ⟨rfl, rfl⟩
          rw [hin]
          go_wp2_with fail
          go_ret
          exact ⟨rfl, Below.refl _ _⟩
  · have hin : inB width 0 4 = false := by rw [inB_out, ho]; rfl
    have hv : pathErr width f t = 1 := by unfold pathErr; rw [if_pos ho]
    rw [hv]
    clear hv hfl htl hf ht ho
    go_enter Tryd.func4, Tryd.ntmps4
    go_wp2_with fail
    go_at_call 12
    refine (in3_any _ _ _ _).mono ?_
    rintro e w1 ⟨rfl, rfl⟩
    rw [hin]
    go_wp2_with fail
    go_ret
    exact ⟨rfl, Below.refl _ _⟩
end Go.Proofs.YtbojcbpmalgdlaaDoor
