/- Contracts of det.Check, det.Of at a matrix that is right. -/
import Derived.Test.YtokneabcgmjhdaaGreatDoorDetOf
import Derived.Test.YtokneabcgmjhdaaGreatDoorBase
namespace Go.Proofs.YtokneabcgmjhdaaGreatDoor
open Go.RowKit
set_option linter.unusedVariables false
set_option linter.unusedSimpArgs false

theorem DCheck_good (b off n cap : Nat) (rows : List (List Int)) (w : World) (hr : RowsAt w (some ⟨b, off, none⟩) n rows) (hn : 0 < n) (hn5 : n ≤ 5) (hsq : Sq n rows) (hm : matErr rows 5 0 9972 = 0) :
    Calls Tryz.prog 115 #[.slice (some ⟨b, off, none⟩) n cap] w fun e w' => e = .returned .nilIface ∧ w = w' := by
  have hG := fun W (h : RowsAt W (some ⟨b, off, none⟩) n rows) => Grounds_any (some ⟨b, off, none⟩) n cap rows 5 0 9972 W h (by omega) (by omega) (by omega) (fun k hk => by rw [hsq.2 k hk]; omega)
  rw [hm, errV_zero] at hG
  have hM : Calls Tryz.prog 129 #[.slice (some ⟨b, off, none⟩) n cap] w fun e w' => e = .returned .nilIface ∧ w = w' := by
    have HR := Lib.hid hr
    have HG := Lib.hid hG
    clear hr hsq hm hG
    go_enter Tryz.func129, Tryz.ntmps129
    go_wp2_with fail
    go_at_call 142
    refine (HG.out _ HR.out).mono ?_
    rintro e w1 ⟨rfl, rfl⟩
    go_wp2_with fail
    go_ret
    exact ⟨rfl, rfl⟩
  obtain ⟨ra0, rc0, hc0, g1, g2, g3, g4⟩ := hr.row (i := 0) hn
  rw [Nat.add_zero, hsq.2 0 hn] at hc0
  have hb2 : ((n : Int) != (n : Int)) = false := by simp
  have hn0 : (0 : Int) < n := by omega
  clear hr hsq hm hG g1 g2 g3 g4
  go_enter Tryz.func115, Tryz.ntmps115
  go_wp2_with fail
  go_at_call 129
  refine (hM).mono ?_
  rintro e w1 ⟨rfl, rfl⟩
  go_wp2_with fail
  go_ret
  exact ⟨rfl, rfl⟩
theorem mat_good {n : Nat} {rows : List (List Int)} (hn : 0 < n) (hn5 : n ≤ 5) (hsq : Sq n rows) (hent : ∀ i j, i < n → j < n → 0 ≤ fn rows i j ∧ fn rows i j < 9973) : matErr rows 5 0 9972 = 0 := by
  have hl := hsq.1
  have h0 := hsq.2 0 hn
  unfold matErr
  rw [if_neg (by rw [hl, h0]; omega), if_neg (by rw [hl, h0]; omega), h0]
  refine rowsErr_zero fun i hi => ?_
  rw [hl] at hi
  refine ⟨hsq.2 i hi, ?_⟩
  rw [anyOut, List.any_eq_false]
  intro x hx
  obtain ⟨j, hj, rfl⟩ := List.getElem_of_mem hx
  have hj' : j < n := by rw [← hsq.2 i hi]; exact hj
  have := hent i j hi hj'
  have e : fn rows i j = (rows.getD i [])[j] := by unfold fn; rw [List.getD_eq_getElem?_getD, List.getElem?_eq_getElem hj]; rfl
  rw [e] at this
  generalize (rows.getD i [])[j] = y at *
  simp [outB]
  omega
theorem DetFn_good (b off n cap : Nat) (rows : List (List Int)) (w : World) (hr : RowsAt w (some ⟨b, off, none⟩) n rows) (hn : 0 < n) (hn5 : n ≤ 5) (hcap : n ≤ cap) (hsq : Sq n rows) (hent : ∀ i j, i < n → j < n → 0 ≤ fn rows i j ∧ fn rows i j < 9973) :
    Calls Tryz.prog 95 #[.slice (some ⟨b, off, none⟩) n cap] w fun e w' => e = .returned (.tuple #[.int .i64 (G (-1) n (fn rows) % 9973), .nilIface]) ∧ Below w.heap.size w w' := by
  have hC := DCheck_good b off n cap rows w hr hn hn5 hsq (mat_good hn hn5 hsq hent)
  have hD := fun W (h : RowsAt W (some ⟨b, off, none⟩) n rows) => Det_of n (some ⟨b, off, none⟩) cap rows W hn hn5 hcap hsq hent h
  generalize G (-1) n (fn rows) % 9973 = d at *
  have HR := Lib.hid hr
  clear hr hsq hent
  go_enter Tryz.func95, Tryz.ntmps95
  go_wp2_with fail
  go_at_call 115
  refine (hC).mono ?_
  rintro e w1 ⟨rfl, rfl⟩
  go_wp2_with fail
  go_at_call 116
  refine (hD _ HR.out).mono ?_
  rintro e w2 ⟨rfl, hb⟩
  go_wp2_with fail
  go_ret2
  exact ⟨rfl, hb⟩
end Go.Proofs.YtokneabcgmjhdaaGreatDoor
