/- It proves that rankmerelaw4.HermiteSays, called with any two lists of lists of integers and any list of integers, returns true, and leaves its arguments as they were. The one condition: errors.errorType is as the program's text lays it; the card ties it. -/
import Derived.Test.YtijlhdgagaehaaaDoorHHermite
import Derived.Test.YtijlhdgagaehaaaDoorHerSame2
import Derived.Test.YtijlhdgagaehaaaDoorHSumHas
import Derived.Test.YtijlhdgagaehaaaDoorESame
import Derived.Test.YtijlhdgagaehaaaDoorRMatrix
import Derived.Test.YtijlhdgagaehaaaDoorTold
import Derived.Test.YtijlhdgagaehaaaDoorLawIn
import Derived.Test.YtijlhdgagaehaaaDoorOpen
import Derived.Test.YtijlhdgagaehaaaDoorTie
import Derived.Test.YtijlhdgagaehaaaDoorCards
import Derived.ProofKit
import Derived.OpenShut
import Derived.ShutString
import Derived.ChangeOld
import Derived.ChangeVars
import Derived.Lib.SmallJoins
import Derived.LaidLaws
import Derived.LaidHandle
import Derived.Stop.Joined
import Derived.SevenTiedAt
import Derived.StillTailTactics
namespace Go.Proofs.YtijlhdgagaehaaaDoor.HermiteSaysP
open Go.ChangeShapes Go.WideShapes Go.ChangeAt Go.RowKit Go.Joins
open Go.ChangeMaps (open_string shut_string)
open Go.Proofs.YtijlhdgagaehaaaDoor
set_option linter.unusedVariables false
set_option linter.unusedSimpArgs false

theorem told (x : Int) (w : World) (hg : Handle w) : Calls Tryd.prog 5 #[errV x, .int .i64 x] w fun ev w' => ev = .returned (.bool true) ∧ Below w.heap.size w w' := by
  have h := EError_any x x w hg
  rw [show (x == x) = true by simp] at h
  exact h
theorem in100 {x : List Int} (h : anyOut (-100) 100 x = false) (j : Nat) : (x.getD j 0).natAbs ≤ 100 := by
  by_cases hj : j < x.length
  · unfold anyOut at h
    rw [List.any_eq_false] at h
    have h2 := h x[j] (List.getElem_mem hj)
    have e : x.getD j 0 = x[j] := by simp [List.getD, hj]
    rw [e]
    unfold outB at h2
    simp at h2
    omega
  · simp [List.getD, hj]
/-- the three kinds of a row x -/
theorem x_cases (rows : List (List Int)) (x : List Int) (he : herErr rows = 0) :
    (x.length ≠ rows.length ∧ hasErr rows x = 3 ∧ hasV rows x = false) ∨ (x.length = rows.length ∧ anyOut (-100) 100 x = true ∧ hasErr rows x = 1 ∧ hasV rows x = false) ∨
    (x.length = rows.length ∧ anyOut (-100) 100 x = false ∧ hasErr rows x = 0 ∧ hasV rows x = hasB rows.length (fn rows) (fnL x)) := by
  unfold hasV hasErr
  rw [if_neg (by omega)]
  by_cases h1 : x.length = rows.length
  · rw [if_neg (by omega)]
    cases h2 : anyOut (-100) 100 x
    · right; right; simp [h1]
    · right; left; simp [h1]
  · left
    rw [if_pos h1]
    exact ⟨h1, rfl, rfl⟩

set_option maxRecDepth 100000 in
set_option maxHeartbeats 2000000 in
theorem says_bad (a ak : Option Addr) (n cap m capk : Nat) (rows next : List (List Int)) (ax : Option Addr) (mx capx : Nat) (x : List Int) (w : World) (hr : RowsAt w a n rows) (hcap : n ≤ cap) (hs : Small n rows)
    (hk : RowsAt w ak m next) (hcapk : m ≤ capk) (hsk : Small m next) (hx : IntsAt w ax mx x) (hcx : mx ≤ capx) (hmx : capx ≤ 9223372036854775807 ∧ (ax = none → capx = 0)) (he : herErr rows ≠ 0) (hg : Handle w) :
    Calls Tryd.prog 3 #[.slice a n cap, .slice ak m capk, .slice ax mx capx] w fun e w' => e = .returned (.bool true) ∧ Below w.heap.size w w' := by
  have hse : sameErr rows next = herErr rows := by unfold sameErr; rw [if_pos he]
  have hhe : hasErr rows x = herErr rows := by unfold hasErr; rw [if_pos he]
  have hhv : hasV rows x = false := by unfold hasV; rw [hhe, if_neg he]
  have h0 := fun W (h : RowsAt W a n rows) => HRows_any a n cap rows W h hcap hs
  have h1 := fun W (h : RowsAt W a n rows) => HCheck_any a n cap rows W h hcap hs
  have h2 := fun W (h : RowsAt W a n rows) => FormFn_bad a n cap rows W h hcap hs he
  have h3 := fun W (h : RowsAt W a n rows) (h' : RowsAt W ak m next) => Same_bad a ak n m cap capk rows next W h h' hcap hcapk hs hsk (by rw [hse]; exact he)
  have h4 := fun W (h : RowsAt W a n rows) (h' : IntsAt W ax mx x) => Has_any a ax n cap mx capx rows x W h h' hcap hs (by omega)
  have h5 := fun W => ERows_like none none 0 0 0 [] W (RowsAt.nil _ _) (RowsAt.nil _ _) (by omega) (fun k hk => by omega)
  rw [hse] at h3
  rw [hhe, hhv] at h4
  have hbad : (herErr rows == 0) = false := by simpa using he
  have ht := told (herErr rows)
  clear hse hhe hhv
  generalize herErr rows = E at *
  rw [errV_pos he] at h1 h2 h3 h4 ht
  have HR := Lib.hid hr
  have HK := Lib.hid hk
  have HX := Lib.hid hx
  have HG := Lib.hid hg
  have HSame := Lib.hid h3
  have HHas := Lib.hid h4
  have HF := Lib.hid h2
  clear hr hk hx hg h2 h3 h4 hmx
  go_enter Tryd.func3, Tryd.ntmps3
  go_wp2_with fail
  go_at_call 4
  refine (h0 _ HR.out).mono ?_
  rintro e w1 ⟨rfl, hb1⟩
  go_wp2_with fail
  go_at_call 6
  refine (h1 _ (HR.out.call hb1)).mono ?_
  rintro e w2 ⟨rfl, hb2⟩
  have hb12 := below_trans hb1 hb2
  go_wp2_with fail
  go_at_call 5
  refine (ht _ (HG.out.call hb12)).mono ?_
  rintro e w3 ⟨rfl, hb3⟩
  have hb13 := below_trans hb12 hb3
  go_wp2_with fail
  go_at_call 8
  refine (HF.out _ (HR.out.call hb13)).mono ?_
  rintro e w4 ⟨rfl, hb4⟩
  have hb14 := below_trans hb13 hb4
  go_wp2_with fail
  go_at_call 5
  refine (ht _ (HG.out.call hb14)).mono ?_
  rintro e w5 ⟨rfl, hb5⟩
  have hb15 := below_trans hb14 hb5
  go_wp2_with fail
  go_at_call 9
  refine (h5 _).mono ?_
  rintro e w8 ⟨rfl, hb8⟩
  have hbA := below_trans hb15 hb8
  clear hb1 hb2 hb12 hb3 hb13 hb4 hb14 hb5 hb15 hb8
  go_wp2_with fail
  go_loopg [14, 15] 2 (fun g s i wr => s = .bool false ∧ i = .int .i64 0 ∧ wr = w8)
  case atStart => exact ⟨rfl, rfl, rfl⟩
  case round =>
    obtain ⟨rfl, rfl, rfl⟩ := hrel
    rcases Nat.eq_zero_or_pos n with hn0 | hn0
    all_goals
      first | subst hn0 | have hn0i : (0 : Int) < (n : Int) := by omega
      go_wp2_with fail
      go_at_call 11
      refine (HSame.out _ (HR.out.call hbA) (HK.out.call hbA)).mono ?_
      rintro e w9 ⟨rfl, hb9⟩
      have hbB := below_trans hbA hb9
      go_wp2_with fail
      go_at_call 5
      refine (ht _ (HG.out.call hbB)).mono ?_
      rintro e w10 ⟨rfl, hb10⟩
      have hbC := below_trans hbB hb10
      go_wp2_with fail
      go_at_call 13
      refine (HHas.out _ (HR.out.call hbC) (HX.out.call hbC)).mono ?_
      rintro e w11 ⟨rfl, hb11⟩
      have hbD := below_trans hbC hb11
      go_wp2_with fail
      go_at_call 5
      refine (ht _ (HG.out.call hbD)).mono ?_
      rintro e w12 ⟨rfl, hb12⟩
      go_wp2_with fail
      go_ret
      exact ⟨rfl, below_trans hbD hb12⟩

theorem same_of {n : Nat} {M N : Nat → Nat → Int} {s : Bool} {k : Nat} (h1 : s = true → k = n) (h2 : s = true → ∀ i, i < k → Lat n M (N i) ∧ Lat n N (M i)) (h3 : s = false → ∃ i, i < n ∧ ¬ (Lat n M (N i) ∧ Lat n N (M i))) : sameB n M N = s := by
  unfold sameB
  cases s
  · refine @decide_eq_false _ (Classical.propDecidable _) fun h => ?_
    obtain ⟨i, hi, hni⟩ := h3 rfl
    exact hni ((lat_same_iff M N).1 h i hi)
  · refine @decide_eq_true _ (Classical.propDecidable _) ((lat_same_iff M N).2 fun i hi => h2 rfl i (by rw [h1 rfl]; exact hi))


set_option maxRecDepth 100000 in
set_option maxHeartbeats 4000000 in
theorem says_B21 (a ak : Option Addr) (n cap m capk : Nat) (rows next : List (List Int)) (ax : Option Addr) (mx capx : Nat) (x : List Int) (w : World) (hr : RowsAt w a n rows) (hcap : n ≤ cap) (hs : Small n rows)
    (hk : RowsAt w ak m next) (hcapk : m ≤ capk) (hsk : Small m next) (hx : IntsAt w ax mx x) (hcx : mx ≤ capx) (hmx : capx ≤ 9223372036854775807 ∧ (ax = none → capx = 0)) (he : herErr rows = 0) (heK : herErr next ≠ 0) (hx1 : mx ≠ n) (hx2 : hasErr rows x = 3) (hx3 : hasV rows x = false) (hg : Handle w) :
    Calls Tryd.prog 3 #[.slice a n cap, .slice ak m capk, .slice ax mx capx] w fun e w' => e = .returned (.bool true) ∧ Below w.heap.size w w' := by
  have hok := herErr_good hr.1 he
  have hn0 := hok.pos
  have hn3 := hok.le
  obtain ⟨b, off, rfl, hb0⟩ := hr.some hn0
  have h0 := fun W (h : RowsAt W (some ⟨b, off, none⟩) n rows) => HRows_any (some ⟨b, off, none⟩) n cap rows W h hcap hs
  have h1 := fun W (h : RowsAt W (some ⟨b, off, none⟩) n rows) => HCheck_any (some ⟨b, off, none⟩) n cap rows W h hcap hs
  have HF := Lib.hid (fun W (h : RowsAt W (some ⟨b, off, none⟩) n rows) => FormFn_good (some ⟨b, off, none⟩) n cap rows W h hcap hs he)
  have HH := Lib.hid (fun W (h : RowsAt W (some ⟨b, off, none⟩) n rows) => HHermite_any b off n cap rows W h hcap hok)
  have h4 := fun W (h : RowsAt W (some ⟨b, off, none⟩) n rows) (h' : IntsAt W ax mx x) => Has_any (some ⟨b, off, none⟩) ax n cap mx capx rows x W h h' hcap hs (by omega)
  have HAll := Lib.hid (fun W (h : IntsAt W ax mx x) => RAll_any ax mx capx x (-100) 100 W h (by omega))
  have HB := Lib.hid (fun W (h : RowsAt W ak m next) => HRows_any ak m capk next W h hcapk hsk)
  have ht0 := told 0
  rw [he] at h0 h1
  rw [errV_zero] at h1 ht0
  have HR := Lib.hid hr
  have HK := Lib.hid hk
  have HX := Lib.hid hx
  have HG := Lib.hid hg
  have hse : sameErr rows next = herErr next := by unfold sameErr; rw [if_neg (by omega), if_pos heK]
  have h3 := fun W (h : RowsAt W (some ⟨b, off, none⟩) n rows) (h' : RowsAt W ak m next) => Same_bad (some ⟨b, off, none⟩) ak n m cap capk rows next W h h' hcap hcapk hs hsk (by rw [hse]; exact heK)
  rw [hse] at h3
  have hbad : (herErr next == 0) = false := by simpa using heK
  have htB := told (herErr next)
  generalize herErr next = E at *
  rw [errV_pos heK] at h3 htB
  have HSame := Lib.hid h3
  clear h3 hse
  have htX := told 3
  rw [hx2, hx3, errV_pos (by decide)] at h4
  rw [errV_pos (by decide)] at htX
  have HHas := Lib.hid h4
  have hlx : ((mx : Int) != (n : Int)) = true := by simp; omega
  clear h4 hx2 hx3 hx1 hmx
  clear hr hs hk hsk hx hg he hok hb0
  go_enter Tryd.func3, Tryd.ntmps3
  go_wp2_with fail
  go_at_call 4
  refine (h0 _ HR.out).mono ?_
  rintro e w1 ⟨rfl, hb1⟩
  go_wp2_with fail
  go_at_call 6
  refine (h1 _ (HR.out.call hb1)).mono ?_
  rintro e w2 ⟨rfl, hb2⟩
  have hb12 := below_trans hb1 hb2
  go_wp2_with fail
  go_at_call 5
  refine (ht0 _ (HG.out.call hb12)).mono ?_
  rintro e w3 ⟨rfl, hb3⟩
  have hb13 := below_trans hb12 hb3
  go_wp2_with fail
  go_at_call 7
  refine (HH.out _ (HR.out.call hb13)).mono ?_
  rintro e w4 ⟨⟨G1, c1, vs1, T1, rfl, hO, hT1, hT2⟩, hb4⟩
  have hb14 := below_trans hb13 hb4
  have hO1 := hO.read
  rw [hT1.1] at hO1
  have HO1 := Lib.hid hO1
  have HT := Lib.hid (show Sq n T1 ∧ FormOf n (fn rows) (fn T1) from ⟨hT1, hT2⟩)
  clear hb1 hb2 hb12 hb3 hb13 hO hT1 hT2 hO1
  go_wp2_with fail
  go_at_call 8
  refine (HF.out _ (HR.out.call hb14)).mono ?_
  rintro e w5 ⟨⟨G2, T2, rfl, hra2, hs2, hf2⟩, hb5⟩
  have HRA := Lib.hid (show RowsAt w5 (some ⟨G2, 0, none⟩) n T1 from by rw [form_list HT.out.1 hs2 HT.out.2 hf2]; exact hra2)
  have hb15 := below_trans hb14 hb5
  have HO2 := Lib.hid (HO1.out.call hb5)
  clear HO1 hra2 hs2 hf2 hb5 hb4 hb14
  go_wp2_with fail
  go_at_call 5
  refine (ht0 _ (HG.out.call hb15)).mono ?_
  rintro e w6 ⟨rfl, hb6⟩
  have hb16 := below_trans hb15 hb6
  have hEE := Lib.hid (ERows_like (some ⟨G2, 0, none⟩) (some ⟨G1, 0, none⟩) n n c1 T1 w6 (HRA.out.call hb6) (HO2.out.call hb6) (by omega) (fun k hk => by rw [HT.out.1.2 k hk]; omega))
  clear hb15 hb6 HRA HO2
  go_wp2_with fail
  go_at_call 9
  refine (hEE.out).mono ?_
  rintro e w7 ⟨rfl, hb7⟩
  have hb17 := below_trans hb16 hb7
  clear hEE hb16 hb7 HT
  go_wp2_with fail
  go_at_call 4
  refine (HB.out _ (HK.out.call hb17)).mono ?_
  rintro e w8 ⟨rfl, hb8⟩
  have hbA := below_trans hb17 hb8
  clear hb17 hb8
  
  go_wp2_with fail
  go_loopg [14, 15] 2 (fun g s i wr => s = .bool false ∧ i = .int .i64 0 ∧ wr = w8)
  case atStart => exact ⟨rfl, rfl, rfl⟩
  case round =>
    obtain ⟨rfl, rfl, rfl⟩ := hrel
    have hn0i : (0 : Int) < (n : Int) := by omega
    go_wp2_with fail
    go_at_call 11
    refine (HSame.out _ (HR.out.call hbA) (HK.out.call hbA)).mono ?_
    rintro e w9 ⟨rfl, hb9⟩
    have hbB := below_trans hbA hb9
    go_wp2_with fail
    go_at_call 5
    refine (htB _ (HG.out.call hbB)).mono ?_
    rintro e w10 ⟨rfl, hb10⟩
    have hbC := below_trans hbB hb10
    clear hbA hb9 hbB hb10
    
    go_wp2_with fail
    go_at_call 13
    refine (HHas.out _ (HR.out.call hbC) (HX.out.call hbC)).mono ?_
    rintro e w11 ⟨rfl, hb11⟩
    have hbD := below_trans hbC hb11
    go_wp2_with fail
    go_at_call 5
    refine (htX _ (HG.out.call hbD)).mono ?_
    rintro e w12 ⟨rfl, hb12⟩
    go_wp2_with fail
    go_ret
    exact ⟨rfl, below_trans hbD hb12⟩
    

set_option maxRecDepth 100000 in
set_option maxHeartbeats 4000000 in
theorem says_B22 (a ak : Option Addr) (n cap m capk : Nat) (rows next : List (List Int)) (ax : Option Addr) (mx capx : Nat) (x : List Int) (w : World) (hr : RowsAt w a n rows) (hcap : n ≤ cap) (hs : Small n rows)
    (hk : RowsAt w ak m next) (hcapk : m ≤ capk) (hsk : Small m next) (hx : IntsAt w ax mx x) (hcx : mx ≤ capx) (hmx : capx ≤ 9223372036854775807 ∧ (ax = none → capx = 0)) (he : herErr rows = 0) (heK : herErr next ≠ 0) (hx1 : mx = n) (hx0 : anyOut (-100) 100 x = true) (hx2 : hasErr rows x = 1) (hx3 : hasV rows x = false) (hg : Handle w) :
    Calls Tryd.prog 3 #[.slice a n cap, .slice ak m capk, .slice ax mx capx] w fun e w' => e = .returned (.bool true) ∧ Below w.heap.size w w' := by
  have hok := herErr_good hr.1 he
  have hn0 := hok.pos
  have hn3 := hok.le
  obtain ⟨b, off, rfl, hb0⟩ := hr.some hn0
  have h0 := fun W (h : RowsAt W (some ⟨b, off, none⟩) n rows) => HRows_any (some ⟨b, off, none⟩) n cap rows W h hcap hs
  have h1 := fun W (h : RowsAt W (some ⟨b, off, none⟩) n rows) => HCheck_any (some ⟨b, off, none⟩) n cap rows W h hcap hs
  have HF := Lib.hid (fun W (h : RowsAt W (some ⟨b, off, none⟩) n rows) => FormFn_good (some ⟨b, off, none⟩) n cap rows W h hcap hs he)
  have HH := Lib.hid (fun W (h : RowsAt W (some ⟨b, off, none⟩) n rows) => HHermite_any b off n cap rows W h hcap hok)
  have h4 := fun W (h : RowsAt W (some ⟨b, off, none⟩) n rows) (h' : IntsAt W ax mx x) => Has_any (some ⟨b, off, none⟩) ax n cap mx capx rows x W h h' hcap hs (by omega)
  have HAll := Lib.hid (fun W (h : IntsAt W ax mx x) => RAll_any ax mx capx x (-100) 100 W h (by omega))
  have HB := Lib.hid (fun W (h : RowsAt W ak m next) => HRows_any ak m capk next W h hcapk hsk)
  have ht0 := told 0
  rw [he] at h0 h1
  rw [errV_zero] at h1 ht0
  have HR := Lib.hid hr
  have HK := Lib.hid hk
  have HX := Lib.hid hx
  have HG := Lib.hid hg
  have hse : sameErr rows next = herErr next := by unfold sameErr; rw [if_neg (by omega), if_pos heK]
  have h3 := fun W (h : RowsAt W (some ⟨b, off, none⟩) n rows) (h' : RowsAt W ak m next) => Same_bad (some ⟨b, off, none⟩) ak n m cap capk rows next W h h' hcap hcapk hs hsk (by rw [hse]; exact heK)
  rw [hse] at h3
  have hbad : (herErr next == 0) = false := by simpa using heK
  have htB := told (herErr next)
  generalize herErr next = E at *
  rw [errV_pos heK] at h3 htB
  have HSame := Lib.hid h3
  clear h3 hse
  have htX := told 1
  rw [hx2, hx3, errV_pos (by decide)] at h4
  rw [hx0] at HAll
  rw [errV_pos (by decide)] at htX
  have HHas := Lib.hid h4
  have hlx : ((mx : Int) != (n : Int)) = false := by simp; omega
  clear h4 hx2 hx3 hx1 hx0 hmx
  clear hr hs hk hsk hx hg he hok hb0
  go_enter Tryd.func3, Tryd.ntmps3
  go_wp2_with fail
  go_at_call 4
  refine (h0 _ HR.out).mono ?_
  rintro e w1 ⟨rfl, hb1⟩
  go_wp2_with fail
  go_at_call 6
  refine (h1 _ (HR.out.call hb1)).mono ?_
  rintro e w2 ⟨rfl, hb2⟩
  have hb12 := below_trans hb1 hb2
  go_wp2_with fail
  go_at_call 5
  refine (ht0 _ (HG.out.call hb12)).mono ?_
  rintro e w3 ⟨rfl, hb3⟩
  have hb13 := below_trans hb12 hb3
  go_wp2_with fail
  go_at_call 7
  refine (HH.out _ (HR.out.call hb13)).mono ?_
  rintro e w4 ⟨⟨G1, c1, vs1, T1, rfl, hO, hT1, hT2⟩, hb4⟩
  have hb14 := below_trans hb13 hb4
  have hO1 := hO.read
  rw [hT1.1] at hO1
  have HO1 := Lib.hid hO1
  have HT := Lib.hid (show Sq n T1 ∧ FormOf n (fn rows) (fn T1) from ⟨hT1, hT2⟩)
  clear hb1 hb2 hb12 hb3 hb13 hO hT1 hT2 hO1
  go_wp2_with fail
  go_at_call 8
  refine (HF.out _ (HR.out.call hb14)).mono ?_
  rintro e w5 ⟨⟨G2, T2, rfl, hra2, hs2, hf2⟩, hb5⟩
  have HRA := Lib.hid (show RowsAt w5 (some ⟨G2, 0, none⟩) n T1 from by rw [form_list HT.out.1 hs2 HT.out.2 hf2]; exact hra2)
  have hb15 := below_trans hb14 hb5
  have HO2 := Lib.hid (HO1.out.call hb5)
  clear HO1 hra2 hs2 hf2 hb5 hb4 hb14
  go_wp2_with fail
  go_at_call 5
  refine (ht0 _ (HG.out.call hb15)).mono ?_
  rintro e w6 ⟨rfl, hb6⟩
  have hb16 := below_trans hb15 hb6
  have hEE := Lib.hid (ERows_like (some ⟨G2, 0, none⟩) (some ⟨G1, 0, none⟩) n n c1 T1 w6 (HRA.out.call hb6) (HO2.out.call hb6) (by omega) (fun k hk => by rw [HT.out.1.2 k hk]; omega))
  clear hb15 hb6 HRA HO2
  go_wp2_with fail
  go_at_call 9
  refine (hEE.out).mono ?_
  rintro e w7 ⟨rfl, hb7⟩
  have hb17 := below_trans hb16 hb7
  clear hEE hb16 hb7 HT
  go_wp2_with fail
  go_at_call 4
  refine (HB.out _ (HK.out.call hb17)).mono ?_
  rintro e w8 ⟨rfl, hb8⟩
  have hbA := below_trans hb17 hb8
  clear hb17 hb8
  
  go_wp2_with fail
  go_loopg [14, 15] 2 (fun g s i wr => s = .bool false ∧ i = .int .i64 0 ∧ wr = w8)
  case atStart => exact ⟨rfl, rfl, rfl⟩
  case round =>
    obtain ⟨rfl, rfl, rfl⟩ := hrel
    have hn0i : (0 : Int) < (n : Int) := by omega
    go_wp2_with fail
    go_at_call 11
    refine (HSame.out _ (HR.out.call hbA) (HK.out.call hbA)).mono ?_
    rintro e w9 ⟨rfl, hb9⟩
    have hbB := below_trans hbA hb9
    go_wp2_with fail
    go_at_call 5
    refine (htB _ (HG.out.call hbB)).mono ?_
    rintro e w10 ⟨rfl, hb10⟩
    have hbC := below_trans hbB hb10
    clear hbA hb9 hbB hb10
    
    go_wp2_with fail
    go_at_call 12
    refine (HAll.out _ (HX.out.call hbC)).mono ?_
    rintro e w13 ⟨rfl, rfl⟩
    go_wp2_with fail
    go_at_call 13
    refine (HHas.out _ (HR.out.call hbC) (HX.out.call hbC)).mono ?_
    rintro e w11 ⟨rfl, hb11⟩
    have hbD := below_trans hbC hb11
    go_wp2_with fail
    go_at_call 5
    refine (htX _ (HG.out.call hbD)).mono ?_
    rintro e w12 ⟨rfl, hb12⟩
    go_wp2_with fail
    go_ret
    exact ⟨rfl, below_trans hbD hb12⟩
    
    

set_option maxRecDepth 100000 in
set_option maxHeartbeats 4000000 in
theorem says_B23 (a ak : Option Addr) (n cap m capk : Nat) (rows next : List (List Int)) (ax : Option Addr) (mx capx : Nat) (x : List Int) (w : World) (hr : RowsAt w a n rows) (hcap : n ≤ cap) (hs : Small n rows)
    (hk : RowsAt w ak m next) (hcapk : m ≤ capk) (hsk : Small m next) (hx : IntsAt w ax mx x) (hcx : mx ≤ capx) (hmx : capx ≤ 9223372036854775807 ∧ (ax = none → capx = 0)) (he : herErr rows = 0) (heK : herErr next ≠ 0) (hx1 : mx = n) (hx0 : anyOut (-100) 100 x = false) (hx2 : hasErr rows x = 0) (hx3 : hasV rows x = hasB n (fn rows) (fnL x)) (hg : Handle w) :
    Calls Tryd.prog 3 #[.slice a n cap, .slice ak m capk, .slice ax mx capx] w fun e w' => e = .returned (.bool true) ∧ Below w.heap.size w w' := by
  have hok := herErr_good hr.1 he
  have hn0 := hok.pos
  have hn3 := hok.le
  obtain ⟨b, off, rfl, hb0⟩ := hr.some hn0
  have h0 := fun W (h : RowsAt W (some ⟨b, off, none⟩) n rows) => HRows_any (some ⟨b, off, none⟩) n cap rows W h hcap hs
  have h1 := fun W (h : RowsAt W (some ⟨b, off, none⟩) n rows) => HCheck_any (some ⟨b, off, none⟩) n cap rows W h hcap hs
  have HF := Lib.hid (fun W (h : RowsAt W (some ⟨b, off, none⟩) n rows) => FormFn_good (some ⟨b, off, none⟩) n cap rows W h hcap hs he)
  have HH := Lib.hid (fun W (h : RowsAt W (some ⟨b, off, none⟩) n rows) => HHermite_any b off n cap rows W h hcap hok)
  have h4 := fun W (h : RowsAt W (some ⟨b, off, none⟩) n rows) (h' : IntsAt W ax mx x) => Has_any (some ⟨b, off, none⟩) ax n cap mx capx rows x W h h' hcap hs (by omega)
  have HAll := Lib.hid (fun W (h : IntsAt W ax mx x) => RAll_any ax mx capx x (-100) 100 W h (by omega))
  have HB := Lib.hid (fun W (h : RowsAt W ak m next) => HRows_any ak m capk next W h hcapk hsk)
  have ht0 := told 0
  rw [he] at h0 h1
  rw [errV_zero] at h1 ht0
  have HR := Lib.hid hr
  have HK := Lib.hid hk
  have HX := Lib.hid hx
  have HG := Lib.hid hg
  have hse : sameErr rows next = herErr next := by unfold sameErr; rw [if_neg (by omega), if_pos heK]
  have h3 := fun W (h : RowsAt W (some ⟨b, off, none⟩) n rows) (h' : RowsAt W ak m next) => Same_bad (some ⟨b, off, none⟩) ak n m cap capk rows next W h h' hcap hcapk hs hsk (by rw [hse]; exact heK)
  rw [hse] at h3
  have hbad : (herErr next == 0) = false := by simpa using heK
  have htB := told (herErr next)
  generalize herErr next = E at *
  rw [errV_pos heK] at h3 htB
  have HSame := Lib.hid h3
  clear h3 hse
  obtain rfl : n = mx := hx1.symm
  have HSumX := Lib.hid (fun W (h : RowsAt W (some ⟨b, off, none⟩) n rows) (h' : IntsAt W ax n x) => HSum_has n (some ⟨b, off, none⟩) cap rows ax capx x W h h' hcap hcx (by unfold maxLen; omega) hmx.2 hok (in100 hx0))
  have htX := told 0
  rw [hx2, hx3, errV_zero] at h4
  rw [hx0] at HAll
  rw [errV_zero] at htX
  generalize hasB n (fn rows) (fnL x) = V at *
  have HHas := Lib.hid h4
  have hlx : ((n : Int) != (n : Int)) = false := by simp
  clear h4 hx2 hx3 hx0 hmx
  cases V
  all_goals
    clear hr hs hk hsk hx hg he hok hb0
    go_enter Tryd.func3, Tryd.ntmps3
    go_wp2_with fail
    go_at_call 4
    refine (h0 _ HR.out).mono ?_
    rintro e w1 ⟨rfl, hb1⟩
    go_wp2_with fail
    go_at_call 6
    refine (h1 _ (HR.out.call hb1)).mono ?_
    rintro e w2 ⟨rfl, hb2⟩
    have hb12 := below_trans hb1 hb2
    go_wp2_with fail
    go_at_call 5
    refine (ht0 _ (HG.out.call hb12)).mono ?_
    rintro e w3 ⟨rfl, hb3⟩
    have hb13 := below_trans hb12 hb3
    go_wp2_with fail
    go_at_call 7
    refine (HH.out _ (HR.out.call hb13)).mono ?_
    rintro e w4 ⟨⟨G1, c1, vs1, T1, rfl, hO, hT1, hT2⟩, hb4⟩
    have hb14 := below_trans hb13 hb4
    have hO1 := hO.read
    rw [hT1.1] at hO1
    have HO1 := Lib.hid hO1
    have HT := Lib.hid (show Sq n T1 ∧ FormOf n (fn rows) (fn T1) from ⟨hT1, hT2⟩)
    clear hb1 hb2 hb12 hb3 hb13 hO hT1 hT2 hO1
    go_wp2_with fail
    go_at_call 8
    refine (HF.out _ (HR.out.call hb14)).mono ?_
    rintro e w5 ⟨⟨G2, T2, rfl, hra2, hs2, hf2⟩, hb5⟩
    have HRA := Lib.hid (show RowsAt w5 (some ⟨G2, 0, none⟩) n T1 from by rw [form_list HT.out.1 hs2 HT.out.2 hf2]; exact hra2)
    have hb15 := below_trans hb14 hb5
    have HO2 := Lib.hid (HO1.out.call hb5)
    clear HO1 hra2 hs2 hf2 hb5 hb4 hb14
    go_wp2_with fail
    go_at_call 5
    refine (ht0 _ (HG.out.call hb15)).mono ?_
    rintro e w6 ⟨rfl, hb6⟩
    have hb16 := below_trans hb15 hb6
    have hEE := Lib.hid (ERows_like (some ⟨G2, 0, none⟩) (some ⟨G1, 0, none⟩) n n c1 T1 w6 (HRA.out.call hb6) (HO2.out.call hb6) (by omega) (fun k hk => by rw [HT.out.1.2 k hk]; omega))
    clear hb15 hb6 HRA HO2
    go_wp2_with fail
    go_at_call 9
    refine (hEE.out).mono ?_
    rintro e w7 ⟨rfl, hb7⟩
    have hb17 := below_trans hb16 hb7
    clear hEE hb16 hb7 HT
    go_wp2_with fail
    go_at_call 4
    refine (HB.out _ (HK.out.call hb17)).mono ?_
    rintro e w8 ⟨rfl, hb8⟩
    have hbA := below_trans hb17 hb8
    clear hb17 hb8
    
    go_wp2_with fail
    go_loopg [14, 15] 2 (fun g s i wr => s = .bool false ∧ i = .int .i64 0 ∧ wr = w8)
    case atStart => exact ⟨rfl, rfl, rfl⟩
    case round =>
      obtain ⟨rfl, rfl, rfl⟩ := hrel
      have hn0i : (0 : Int) < (n : Int) := by omega
      go_wp2_with fail
      go_at_call 11
      refine (HSame.out _ (HR.out.call hbA) (HK.out.call hbA)).mono ?_
      rintro e w9 ⟨rfl, hb9⟩
      have hbB := below_trans hbA hb9
      go_wp2_with fail
      go_at_call 5
      refine (htB _ (HG.out.call hbB)).mono ?_
      rintro e w10 ⟨rfl, hb10⟩
      have hbC := below_trans hbB hb10
      clear hbA hb9 hbB hb10
      
      go_wp2_with fail
      go_at_call 12
      refine (HAll.out _ (HX.out.call hbC)).mono ?_
      rintro e w13 ⟨rfl, rfl⟩
      go_wp2_with fail
      go_at_call 10
      refine (HSumX.out _ (HR.out.call hbC) (HX.out.call hbC)).mono ?_
      rintro e w14 ⟨rfl, hb14⟩
      have hbC' := below_trans hbC hb14
      clear hbC hb14
      have hbC := hbC'
      clear hbC'
      go_wp2_with fail
      go_at_call 13
      refine (HHas.out _ (HR.out.call hbC) (HX.out.call hbC)).mono ?_
      rintro e w11 ⟨rfl, hb11⟩
      have hbD := below_trans hbC hb11
      go_wp2_with fail
      go_at_call 5
      refine (htX _ (HG.out.call hbD)).mono ?_
      rintro e w12 ⟨rfl, hb12⟩
      go_wp2_with fail
      go_ret
      exact ⟨rfl, below_trans hbD hb12⟩
      
      

set_option maxRecDepth 100000 in
set_option maxHeartbeats 4000000 in
theorem says_B31 (a ak : Option Addr) (n cap m capk : Nat) (rows next : List (List Int)) (ax : Option Addr) (mx capx : Nat) (x : List Int) (w : World) (hr : RowsAt w a n rows) (hcap : n ≤ cap) (hs : Small n rows)
    (hk : RowsAt w ak m next) (hcapk : m ≤ capk) (hsk : Small m next) (hx : IntsAt w ax mx x) (hcx : mx ≤ capx) (hmx : capx ≤ 9223372036854775807 ∧ (ax = none → capx = 0)) (he : herErr rows = 0) (heK : herErr next = 0) (hnm : n ≠ m) (hx1 : mx ≠ n) (hx2 : hasErr rows x = 3) (hx3 : hasV rows x = false) (hg : Handle w) :
    Calls Tryd.prog 3 #[.slice a n cap, .slice ak m capk, .slice ax mx capx] w fun e w' => e = .returned (.bool true) ∧ Below w.heap.size w w' := by
  have hok := herErr_good hr.1 he
  have hn0 := hok.pos
  have hn3 := hok.le
  obtain ⟨b, off, rfl, hb0⟩ := hr.some hn0
  have h0 := fun W (h : RowsAt W (some ⟨b, off, none⟩) n rows) => HRows_any (some ⟨b, off, none⟩) n cap rows W h hcap hs
  have h1 := fun W (h : RowsAt W (some ⟨b, off, none⟩) n rows) => HCheck_any (some ⟨b, off, none⟩) n cap rows W h hcap hs
  have HF := Lib.hid (fun W (h : RowsAt W (some ⟨b, off, none⟩) n rows) => FormFn_good (some ⟨b, off, none⟩) n cap rows W h hcap hs he)
  have HH := Lib.hid (fun W (h : RowsAt W (some ⟨b, off, none⟩) n rows) => HHermite_any b off n cap rows W h hcap hok)
  have h4 := fun W (h : RowsAt W (some ⟨b, off, none⟩) n rows) (h' : IntsAt W ax mx x) => Has_any (some ⟨b, off, none⟩) ax n cap mx capx rows x W h h' hcap hs (by omega)
  have HAll := Lib.hid (fun W (h : IntsAt W ax mx x) => RAll_any ax mx capx x (-100) 100 W h (by omega))
  have HB := Lib.hid (fun W (h : RowsAt W ak m next) => HRows_any ak m capk next W h hcapk hsk)
  have ht0 := told 0
  rw [he] at h0 h1
  rw [errV_zero] at h1 ht0
  have HR := Lib.hid hr
  have HK := Lib.hid hk
  have HX := Lib.hid hx
  have HG := Lib.hid hg
  have hse : sameErr rows next = 3 := by unfold sameErr; rw [if_neg (by omega), if_neg (by omega), if_pos (by rw [hr.1, hk.1]; exact hnm)]
  have h3 := fun W (h : RowsAt W (some ⟨b, off, none⟩) n rows) (h' : RowsAt W ak m next) => Same_bad (some ⟨b, off, none⟩) ak n m cap capk rows next W h h' hcap hcapk hs hsk (by rw [hse]; decide)
  rw [hse, errV_pos (by decide)] at h3
  have htB := told 3
  rw [errV_pos (by decide)] at htB
  have hlm : ((n : Int) != (m : Int)) = true := by simp; omega
  rw [heK] at HB
  have HSame := Lib.hid h3
  clear h3 hse hnm
  have htX := told 3
  rw [hx2, hx3, errV_pos (by decide)] at h4
  rw [errV_pos (by decide)] at htX
  have HHas := Lib.hid h4
  have hlx : ((mx : Int) != (n : Int)) = true := by simp; omega
  clear h4 hx2 hx3 hx1 hmx
  clear hr hs hk hsk hx hg he hok hb0
  go_enter Tryd.func3, Tryd.ntmps3
  go_wp2_with fail
  go_at_call 4
  refine (h0 _ HR.out).mono ?_
  rintro e w1 ⟨rfl, hb1⟩
  go_wp2_with fail
  go_at_call 6
  refine (h1 _ (HR.out.call hb1)).mono ?_
  rintro e w2 ⟨rfl, hb2⟩
  have hb12 := below_trans hb1 hb2
  go_wp2_with fail
  go_at_call 5
  refine (ht0 _ (HG.out.call hb12)).mono ?_
  rintro e w3 ⟨rfl, hb3⟩
  have hb13 := below_trans hb12 hb3
  go_wp2_with fail
  go_at_call 7
  refine (HH.out _ (HR.out.call hb13)).mono ?_
  rintro e w4 ⟨⟨G1, c1, vs1, T1, rfl, hO, hT1, hT2⟩, hb4⟩
  have hb14 := below_trans hb13 hb4
  have hO1 := hO.read
  rw [hT1.1] at hO1
  have HO1 := Lib.hid hO1
  have HT := Lib.hid (show Sq n T1 ∧ FormOf n (fn rows) (fn T1) from ⟨hT1, hT2⟩)
  clear hb1 hb2 hb12 hb3 hb13 hO hT1 hT2 hO1
  go_wp2_with fail
  go_at_call 8
  refine (HF.out _ (HR.out.call hb14)).mono ?_
  rintro e w5 ⟨⟨G2, T2, rfl, hra2, hs2, hf2⟩, hb5⟩
  have HRA := Lib.hid (show RowsAt w5 (some ⟨G2, 0, none⟩) n T1 from by rw [form_list HT.out.1 hs2 HT.out.2 hf2]; exact hra2)
  have hb15 := below_trans hb14 hb5
  have HO2 := Lib.hid (HO1.out.call hb5)
  clear HO1 hra2 hs2 hf2 hb5 hb4 hb14
  go_wp2_with fail
  go_at_call 5
  refine (ht0 _ (HG.out.call hb15)).mono ?_
  rintro e w6 ⟨rfl, hb6⟩
  have hb16 := below_trans hb15 hb6
  have hEE := Lib.hid (ERows_like (some ⟨G2, 0, none⟩) (some ⟨G1, 0, none⟩) n n c1 T1 w6 (HRA.out.call hb6) (HO2.out.call hb6) (by omega) (fun k hk => by rw [HT.out.1.2 k hk]; omega))
  clear hb15 hb6 HRA HO2
  go_wp2_with fail
  go_at_call 9
  refine (hEE.out).mono ?_
  rintro e w7 ⟨rfl, hb7⟩
  have hb17 := below_trans hb16 hb7
  clear hEE hb16 hb7 HT
  go_wp2_with fail
  go_at_call 4
  refine (HB.out _ (HK.out.call hb17)).mono ?_
  rintro e w8 ⟨rfl, hb8⟩
  have hbA := below_trans hb17 hb8
  clear hb17 hb8
  
  go_wp2_with fail
  go_loopg [14, 15] 2 (fun g s i wr => s = .bool false ∧ i = .int .i64 0 ∧ wr = w8)
  case atStart => exact ⟨rfl, rfl, rfl⟩
  case round =>
    obtain ⟨rfl, rfl, rfl⟩ := hrel
    have hn0i : (0 : Int) < (n : Int) := by omega
    go_wp2_with fail
    go_at_call 11
    refine (HSame.out _ (HR.out.call hbA) (HK.out.call hbA)).mono ?_
    rintro e w9 ⟨rfl, hb9⟩
    have hbB := below_trans hbA hb9
    go_wp2_with fail
    go_at_call 5
    refine (htB _ (HG.out.call hbB)).mono ?_
    rintro e w10 ⟨rfl, hb10⟩
    have hbC := below_trans hbB hb10
    clear hbA hb9 hbB hb10
    
    go_wp2_with fail
    go_at_call 13
    refine (HHas.out _ (HR.out.call hbC) (HX.out.call hbC)).mono ?_
    rintro e w11 ⟨rfl, hb11⟩
    have hbD := below_trans hbC hb11
    go_wp2_with fail
    go_at_call 5
    refine (htX _ (HG.out.call hbD)).mono ?_
    rintro e w12 ⟨rfl, hb12⟩
    go_wp2_with fail
    go_ret
    exact ⟨rfl, below_trans hbD hb12⟩
    

set_option maxRecDepth 100000 in
set_option maxHeartbeats 4000000 in
theorem says_B32 (a ak : Option Addr) (n cap m capk : Nat) (rows next : List (List Int)) (ax : Option Addr) (mx capx : Nat) (x : List Int) (w : World) (hr : RowsAt w a n rows) (hcap : n ≤ cap) (hs : Small n rows)
    (hk : RowsAt w ak m next) (hcapk : m ≤ capk) (hsk : Small m next) (hx : IntsAt w ax mx x) (hcx : mx ≤ capx) (hmx : capx ≤ 9223372036854775807 ∧ (ax = none → capx = 0)) (he : herErr rows = 0) (heK : herErr next = 0) (hnm : n ≠ m) (hx1 : mx = n) (hx0 : anyOut (-100) 100 x = true) (hx2 : hasErr rows x = 1) (hx3 : hasV rows x = false) (hg : Handle w) :
    Calls Tryd.prog 3 #[.slice a n cap, .slice ak m capk, .slice ax mx capx] w fun e w' => e = .returned (.bool true) ∧ Below w.heap.size w w' := by
  have hok := herErr_good hr.1 he
  have hn0 := hok.pos
  have hn3 := hok.le
  obtain ⟨b, off, rfl, hb0⟩ := hr.some hn0
  have h0 := fun W (h : RowsAt W (some ⟨b, off, none⟩) n rows) => HRows_any (some ⟨b, off, none⟩) n cap rows W h hcap hs
  have h1 := fun W (h : RowsAt W (some ⟨b, off, none⟩) n rows) => HCheck_any (some ⟨b, off, none⟩) n cap rows W h hcap hs
  have HF := Lib.hid (fun W (h : RowsAt W (some ⟨b, off, none⟩) n rows) => FormFn_good (some ⟨b, off, none⟩) n cap rows W h hcap hs he)
  have HH := Lib.hid (fun W (h : RowsAt W (some ⟨b, off, none⟩) n rows) => HHermite_any b off n cap rows W h hcap hok)
  have h4 := fun W (h : RowsAt W (some ⟨b, off, none⟩) n rows) (h' : IntsAt W ax mx x) => Has_any (some ⟨b, off, none⟩) ax n cap mx capx rows x W h h' hcap hs (by omega)
  have HAll := Lib.hid (fun W (h : IntsAt W ax mx x) => RAll_any ax mx capx x (-100) 100 W h (by omega))
  have HB := Lib.hid (fun W (h : RowsAt W ak m next) => HRows_any ak m capk next W h hcapk hsk)
  have ht0 := told 0
  rw [he] at h0 h1
  rw [errV_zero] at h1 ht0
  have HR := Lib.hid hr
  have HK := Lib.hid hk
  have HX := Lib.hid hx
  have HG := Lib.hid hg
  have hse : sameErr rows next = 3 := by unfold sameErr; rw [if_neg (by omega), if_neg (by omega), if_pos (by rw [hr.1, hk.1]; exact hnm)]
  have h3 := fun W (h : RowsAt W (some ⟨b, off, none⟩) n rows) (h' : RowsAt W ak m next) => Same_bad (some ⟨b, off, none⟩) ak n m cap capk rows next W h h' hcap hcapk hs hsk (by rw [hse]; decide)
  rw [hse, errV_pos (by decide)] at h3
  have htB := told 3
  rw [errV_pos (by decide)] at htB
  have hlm : ((n : Int) != (m : Int)) = true := by simp; omega
  rw [heK] at HB
  have HSame := Lib.hid h3
  clear h3 hse hnm
  have htX := told 1
  rw [hx2, hx3, errV_pos (by decide)] at h4
  rw [hx0] at HAll
  rw [errV_pos (by decide)] at htX
  have HHas := Lib.hid h4
  have hlx : ((mx : Int) != (n : Int)) = false := by simp; omega
  clear h4 hx2 hx3 hx1 hx0 hmx
  clear hr hs hk hsk hx hg he hok hb0
  go_enter Tryd.func3, Tryd.ntmps3
  go_wp2_with fail
  go_at_call 4
  refine (h0 _ HR.out).mono ?_
  rintro e w1 ⟨rfl, hb1⟩
  go_wp2_with fail
  go_at_call 6
  refine (h1 _ (HR.out.call hb1)).mono ?_
  rintro e w2 ⟨rfl, hb2⟩
  have hb12 := below_trans hb1 hb2
  go_wp2_with fail
  go_at_call 5
  refine (ht0 _ (HG.out.call hb12)).mono ?_
  rintro e w3 ⟨rfl, hb3⟩
  have hb13 := below_trans hb12 hb3
  go_wp2_with fail
  go_at_call 7
  refine (HH.out _ (HR.out.call hb13)).mono ?_
  rintro e w4 ⟨⟨G1, c1, vs1, T1, rfl, hO, hT1, hT2⟩, hb4⟩
  have hb14 := below_trans hb13 hb4
  have hO1 := hO.read
  rw [hT1.1] at hO1
  have HO1 := Lib.hid hO1
  have HT := Lib.hid (show Sq n T1 ∧ FormOf n (fn rows) (fn T1) from ⟨hT1, hT2⟩)
  clear hb1 hb2 hb12 hb3 hb13 hO hT1 hT2 hO1
  go_wp2_with fail
  go_at_call 8
  refine (HF.out _ (HR.out.call hb14)).mono ?_
  rintro e w5 ⟨⟨G2, T2, rfl, hra2, hs2, hf2⟩, hb5⟩
  have HRA := Lib.hid (show RowsAt w5 (some ⟨G2, 0, none⟩) n T1 from by rw [form_list HT.out.1 hs2 HT.out.2 hf2]; exact hra2)
  have hb15 := below_trans hb14 hb5
  have HO2 := Lib.hid (HO1.out.call hb5)
  clear HO1 hra2 hs2 hf2 hb5 hb4 hb14
  go_wp2_with fail
  go_at_call 5
  refine (ht0 _ (HG.out.call hb15)).mono ?_
  rintro e w6 ⟨rfl, hb6⟩
  have hb16 := below_trans hb15 hb6
  have hEE := Lib.hid (ERows_like (some ⟨G2, 0, none⟩) (some ⟨G1, 0, none⟩) n n c1 T1 w6 (HRA.out.call hb6) (HO2.out.call hb6) (by omega) (fun k hk => by rw [HT.out.1.2 k hk]; omega))
  clear hb15 hb6 HRA HO2
  go_wp2_with fail
  go_at_call 9
  refine (hEE.out).mono ?_
  rintro e w7 ⟨rfl, hb7⟩
  have hb17 := below_trans hb16 hb7
  clear hEE hb16 hb7 HT
  go_wp2_with fail
  go_at_call 4
  refine (HB.out _ (HK.out.call hb17)).mono ?_
  rintro e w8 ⟨rfl, hb8⟩
  have hbA := below_trans hb17 hb8
  clear hb17 hb8
  
  go_wp2_with fail
  go_loopg [14, 15] 2 (fun g s i wr => s = .bool false ∧ i = .int .i64 0 ∧ wr = w8)
  case atStart => exact ⟨rfl, rfl, rfl⟩
  case round =>
    obtain ⟨rfl, rfl, rfl⟩ := hrel
    have hn0i : (0 : Int) < (n : Int) := by omega
    go_wp2_with fail
    go_at_call 11
    refine (HSame.out _ (HR.out.call hbA) (HK.out.call hbA)).mono ?_
    rintro e w9 ⟨rfl, hb9⟩
    have hbB := below_trans hbA hb9
    go_wp2_with fail
    go_at_call 5
    refine (htB _ (HG.out.call hbB)).mono ?_
    rintro e w10 ⟨rfl, hb10⟩
    have hbC := below_trans hbB hb10
    clear hbA hb9 hbB hb10
    
    go_wp2_with fail
    go_at_call 12
    refine (HAll.out _ (HX.out.call hbC)).mono ?_
    rintro e w13 ⟨rfl, rfl⟩
    go_wp2_with fail
    go_at_call 13
    refine (HHas.out _ (HR.out.call hbC) (HX.out.call hbC)).mono ?_
    rintro e w11 ⟨rfl, hb11⟩
    have hbD := below_trans hbC hb11
    go_wp2_with fail
    go_at_call 5
    refine (htX _ (HG.out.call hbD)).mono ?_
    rintro e w12 ⟨rfl, hb12⟩
    go_wp2_with fail
    go_ret
    exact ⟨rfl, below_trans hbD hb12⟩
    
    

set_option maxRecDepth 100000 in
set_option maxHeartbeats 4000000 in
theorem says_B33 (a ak : Option Addr) (n cap m capk : Nat) (rows next : List (List Int)) (ax : Option Addr) (mx capx : Nat) (x : List Int) (w : World) (hr : RowsAt w a n rows) (hcap : n ≤ cap) (hs : Small n rows)
    (hk : RowsAt w ak m next) (hcapk : m ≤ capk) (hsk : Small m next) (hx : IntsAt w ax mx x) (hcx : mx ≤ capx) (hmx : capx ≤ 9223372036854775807 ∧ (ax = none → capx = 0)) (he : herErr rows = 0) (heK : herErr next = 0) (hnm : n ≠ m) (hx1 : mx = n) (hx0 : anyOut (-100) 100 x = false) (hx2 : hasErr rows x = 0) (hx3 : hasV rows x = hasB n (fn rows) (fnL x)) (hg : Handle w) :
    Calls Tryd.prog 3 #[.slice a n cap, .slice ak m capk, .slice ax mx capx] w fun e w' => e = .returned (.bool true) ∧ Below w.heap.size w w' := by
  have hok := herErr_good hr.1 he
  have hn0 := hok.pos
  have hn3 := hok.le
  obtain ⟨b, off, rfl, hb0⟩ := hr.some hn0
  have h0 := fun W (h : RowsAt W (some ⟨b, off, none⟩) n rows) => HRows_any (some ⟨b, off, none⟩) n cap rows W h hcap hs
  have h1 := fun W (h : RowsAt W (some ⟨b, off, none⟩) n rows) => HCheck_any (some ⟨b, off, none⟩) n cap rows W h hcap hs
  have HF := Lib.hid (fun W (h : RowsAt W (some ⟨b, off, none⟩) n rows) => FormFn_good (some ⟨b, off, none⟩) n cap rows W h hcap hs he)
  have HH := Lib.hid (fun W (h : RowsAt W (some ⟨b, off, none⟩) n rows) => HHermite_any b off n cap rows W h hcap hok)
  have h4 := fun W (h : RowsAt W (some ⟨b, off, none⟩) n rows) (h' : IntsAt W ax mx x) => Has_any (some ⟨b, off, none⟩) ax n cap mx capx rows x W h h' hcap hs (by omega)
  have HAll := Lib.hid (fun W (h : IntsAt W ax mx x) => RAll_any ax mx capx x (-100) 100 W h (by omega))
  have HB := Lib.hid (fun W (h : RowsAt W ak m next) => HRows_any ak m capk next W h hcapk hsk)
  have ht0 := told 0
  rw [he] at h0 h1
  rw [errV_zero] at h1 ht0
  have HR := Lib.hid hr
  have HK := Lib.hid hk
  have HX := Lib.hid hx
  have HG := Lib.hid hg
  have hse : sameErr rows next = 3 := by unfold sameErr; rw [if_neg (by omega), if_neg (by omega), if_pos (by rw [hr.1, hk.1]; exact hnm)]
  have h3 := fun W (h : RowsAt W (some ⟨b, off, none⟩) n rows) (h' : RowsAt W ak m next) => Same_bad (some ⟨b, off, none⟩) ak n m cap capk rows next W h h' hcap hcapk hs hsk (by rw [hse]; decide)
  rw [hse, errV_pos (by decide)] at h3
  have htB := told 3
  rw [errV_pos (by decide)] at htB
  have hlm : ((n : Int) != (m : Int)) = true := by simp; omega
  rw [heK] at HB
  have HSame := Lib.hid h3
  clear h3 hse hnm
  obtain rfl : n = mx := hx1.symm
  have HSumX := Lib.hid (fun W (h : RowsAt W (some ⟨b, off, none⟩) n rows) (h' : IntsAt W ax n x) => HSum_has n (some ⟨b, off, none⟩) cap rows ax capx x W h h' hcap hcx (by unfold maxLen; omega) hmx.2 hok (in100 hx0))
  have htX := told 0
  rw [hx2, hx3, errV_zero] at h4
  rw [hx0] at HAll
  rw [errV_zero] at htX
  generalize hasB n (fn rows) (fnL x) = V at *
  have HHas := Lib.hid h4
  have hlx : ((n : Int) != (n : Int)) = false := by simp
  clear h4 hx2 hx3 hx0 hmx
  cases V
  all_goals
    clear hr hs hk hsk hx hg he hok hb0
    go_enter Tryd.func3, Tryd.ntmps3
    go_wp2_with fail
    go_at_call 4
    refine (h0 _ HR.out).mono ?_
    rintro e w1 ⟨rfl, hb1⟩
    go_wp2_with fail
    go_at_call 6
    refine (h1 _ (HR.out.call hb1)).mono ?_
    rintro e w2 ⟨rfl, hb2⟩
    have hb12 := below_trans hb1 hb2
    go_wp2_with fail
    go_at_call 5
    refine (ht0 _ (HG.out.call hb12)).mono ?_
    rintro e w3 ⟨rfl, hb3⟩
    have hb13 := below_trans hb12 hb3
    go_wp2_with fail
    go_at_call 7
    refine (HH.out _ (HR.out.call hb13)).mono ?_
    rintro e w4 ⟨⟨G1, c1, vs1, T1, rfl, hO, hT1, hT2⟩, hb4⟩
    have hb14 := below_trans hb13 hb4
    have hO1 := hO.read
    rw [hT1.1] at hO1
    have HO1 := Lib.hid hO1
    have HT := Lib.hid (show Sq n T1 ∧ FormOf n (fn rows) (fn T1) from ⟨hT1, hT2⟩)
    clear hb1 hb2 hb12 hb3 hb13 hO hT1 hT2 hO1
    go_wp2_with fail
    go_at_call 8
    refine (HF.out _ (HR.out.call hb14)).mono ?_
    rintro e w5 ⟨⟨G2, T2, rfl, hra2, hs2, hf2⟩, hb5⟩
    have HRA := Lib.hid (show RowsAt w5 (some ⟨G2, 0, none⟩) n T1 from by rw [form_list HT.out.1 hs2 HT.out.2 hf2]; exact hra2)
    have hb15 := below_trans hb14 hb5
    have HO2 := Lib.hid (HO1.out.call hb5)
    clear HO1 hra2 hs2 hf2 hb5 hb4 hb14
    go_wp2_with fail
    go_at_call 5
    refine (ht0 _ (HG.out.call hb15)).mono ?_
    rintro e w6 ⟨rfl, hb6⟩
    have hb16 := below_trans hb15 hb6
    have hEE := Lib.hid (ERows_like (some ⟨G2, 0, none⟩) (some ⟨G1, 0, none⟩) n n c1 T1 w6 (HRA.out.call hb6) (HO2.out.call hb6) (by omega) (fun k hk => by rw [HT.out.1.2 k hk]; omega))
    clear hb15 hb6 HRA HO2
    go_wp2_with fail
    go_at_call 9
    refine (hEE.out).mono ?_
    rintro e w7 ⟨rfl, hb7⟩
    have hb17 := below_trans hb16 hb7
    clear hEE hb16 hb7 HT
    go_wp2_with fail
    go_at_call 4
    refine (HB.out _ (HK.out.call hb17)).mono ?_
    rintro e w8 ⟨rfl, hb8⟩
    have hbA := below_trans hb17 hb8
    clear hb17 hb8
    
    go_wp2_with fail
    go_loopg [14, 15] 2 (fun g s i wr => s = .bool false ∧ i = .int .i64 0 ∧ wr = w8)
    case atStart => exact ⟨rfl, rfl, rfl⟩
    case round =>
      obtain ⟨rfl, rfl, rfl⟩ := hrel
      have hn0i : (0 : Int) < (n : Int) := by omega
      go_wp2_with fail
      go_at_call 11
      refine (HSame.out _ (HR.out.call hbA) (HK.out.call hbA)).mono ?_
      rintro e w9 ⟨rfl, hb9⟩
      have hbB := below_trans hbA hb9
      go_wp2_with fail
      go_at_call 5
      refine (htB _ (HG.out.call hbB)).mono ?_
      rintro e w10 ⟨rfl, hb10⟩
      have hbC := below_trans hbB hb10
      clear hbA hb9 hbB hb10
      
      go_wp2_with fail
      go_at_call 12
      refine (HAll.out _ (HX.out.call hbC)).mono ?_
      rintro e w13 ⟨rfl, rfl⟩
      go_wp2_with fail
      go_at_call 10
      refine (HSumX.out _ (HR.out.call hbC) (HX.out.call hbC)).mono ?_
      rintro e w14 ⟨rfl, hb14⟩
      have hbC' := below_trans hbC hb14
      clear hbC hb14
      have hbC := hbC'
      clear hbC'
      go_wp2_with fail
      go_at_call 13
      refine (HHas.out _ (HR.out.call hbC) (HX.out.call hbC)).mono ?_
      rintro e w11 ⟨rfl, hb11⟩
      have hbD := below_trans hbC hb11
      go_wp2_with fail
      go_at_call 5
      refine (htX _ (HG.out.call hbD)).mono ?_
      rintro e w12 ⟨rfl, hb12⟩
      go_wp2_with fail
      go_ret
      exact ⟨rfl, below_trans hbD hb12⟩
      
      

set_option maxRecDepth 100000 in
set_option maxHeartbeats 4000000 in
theorem says_G1 (a ak : Option Addr) (n cap m capk : Nat) (rows next : List (List Int)) (ax : Option Addr) (mx capx : Nat) (x : List Int) (w : World) (hr : RowsAt w a n rows) (hcap : n ≤ cap) (hs : Small n rows)
    (hk : RowsAt w ak m next) (hcapk : m ≤ capk) (hsk : Small m next) (hx : IntsAt w ax mx x) (hcx : mx ≤ capx) (hmx : capx ≤ 9223372036854775807 ∧ (ax = none → capx = 0)) (he : herErr rows = 0) (heK : herErr next = 0) (hnm : n = m) (hx1 : mx ≠ n) (hx2 : hasErr rows x = 3) (hx3 : hasV rows x = false) (hg : Handle w) :
    Calls Tryd.prog 3 #[.slice a n cap, .slice ak m capk, .slice ax mx capx] w fun e w' => e = .returned (.bool true) ∧ Below w.heap.size w w' := by
  subst hnm
  have hok := herErr_good hr.1 he
  have hn0 := hok.pos
  have hn3 := hok.le
  obtain ⟨b, off, rfl, hb0⟩ := hr.some hn0
  have h0 := fun W (h : RowsAt W (some ⟨b, off, none⟩) n rows) => HRows_any (some ⟨b, off, none⟩) n cap rows W h hcap hs
  have h1 := fun W (h : RowsAt W (some ⟨b, off, none⟩) n rows) => HCheck_any (some ⟨b, off, none⟩) n cap rows W h hcap hs
  have HF := Lib.hid (fun W (h : RowsAt W (some ⟨b, off, none⟩) n rows) => FormFn_good (some ⟨b, off, none⟩) n cap rows W h hcap hs he)
  have HH := Lib.hid (fun W (h : RowsAt W (some ⟨b, off, none⟩) n rows) => HHermite_any b off n cap rows W h hcap hok)
  have h4 := fun W (h : RowsAt W (some ⟨b, off, none⟩) n rows) (h' : IntsAt W ax mx x) => Has_any (some ⟨b, off, none⟩) ax n cap mx capx rows x W h h' hcap hs (by omega)
  have HAll := Lib.hid (fun W (h : IntsAt W ax mx x) => RAll_any ax mx capx x (-100) 100 W h (by omega))
  have HB := Lib.hid (fun W (h : RowsAt W ak n next) => HRows_any ak n capk next W h hcapk hsk)
  have ht0 := told 0
  rw [he] at h0 h1
  rw [errV_zero] at h1 ht0
  have HR := Lib.hid hr
  have HK := Lib.hid hk
  have HX := Lib.hid hx
  have HG := Lib.hid hg
  have hok' := herErr_good hk.1 heK
  have h3 := fun W (h : RowsAt W (some ⟨b, off, none⟩) n rows) (h' : RowsAt W ak n next) => Same_ok (some ⟨b, off, none⟩) ak n cap capk rows next W h h' hcap hcapk hs hsk he heK
  obtain ⟨r, hr0⟩ : ∃ r, r = sameB n (fn rows) (fn next) := ⟨_, rfl⟩
  rw [← hr0] at h3
  have HV := Lib.hid hr0
  have htB := ht0
  have hlm : ((n : Int) != (n : Int)) = false := by simp
  rw [heK] at HB
  have HSame := Lib.hid h3
  obtain ⟨b2, off2, rfl, hb2⟩ := hk.some hn0
  have HS1 := Lib.hid (fun i (hi : i < n) W (h : RowsAt W (some ⟨b, off, none⟩) n rows) (ra : Option Addr) (rc : Nat) (h' : IntsAt W ra n (next.getD i [])) (hc : n ≤ rc) (hm : rc ≤ maxLen) (hz : ra = none → rc = 0) => HSum_has n (some ⟨b, off, none⟩) cap rows ra rc (next.getD i []) W h h' hcap hc hm hz hok (fun j => Nat.le_trans (hok'.ent i j) (by omega)))
  have HS2 := Lib.hid (fun i (hi : i < n) W (h : RowsAt W (some ⟨b2, off2, none⟩) n next) (ra : Option Addr) (rc : Nat) (h' : IntsAt W ra n (rows.getD i [])) (hc : n ≤ rc) (hm : rc ≤ maxLen) (hz : ra = none → rc = 0) => HSum_has n (some ⟨b2, off2, none⟩) capk next ra rc (rows.getD i []) W h h' hcapk hc hm hz hok' (fun j => Nat.le_trans (hok.ent i j) (by omega)))
  have HSQ := Lib.hid (show Sq n rows ∧ Sq n next from ⟨hok.sq, hok'.sq⟩)
  have HSB := Lib.hid (fun (s : Bool) (k : Nat) (h1 : s = true → k = n) (h2 : s = true → ∀ i, i < k → Lat n (fn rows) (fn next i) ∧ Lat n (fn next) (fn rows i)) (h3 : s = false → ∃ i, i < n ∧ ¬ (Lat n (fn rows) (fn next i) ∧ Lat n (fn next) (fn rows i))) => same_of (s := s) (k := k) h1 h2 h3)
  rw [← HV.out] at HSB
  clear h3 hr0 hok' hb2
  have htX := told 3
  rw [hx2, hx3, errV_pos (by decide)] at h4
  rw [errV_pos (by decide)] at htX
  have HHas := Lib.hid h4
  have hlx : ((mx : Int) != (n : Int)) = true := by simp; omega
  clear h4 hx2 hx3 hx1 hmx
  clear hr hs hk hsk hx hg he heK hok hb0
  go_enter Tryd.func3, Tryd.ntmps3
  go_wp2_with fail
  go_at_call 4
  refine (h0 _ HR.out).mono ?_
  rintro e w1 ⟨rfl, hb1⟩
  go_wp2_with fail
  go_at_call 6
  refine (h1 _ (HR.out.call hb1)).mono ?_
  rintro e w2 ⟨rfl, hb2⟩
  have hb12 := below_trans hb1 hb2
  go_wp2_with fail
  go_at_call 5
  refine (ht0 _ (HG.out.call hb12)).mono ?_
  rintro e w3 ⟨rfl, hb3⟩
  have hb13 := below_trans hb12 hb3
  go_wp2_with fail
  go_at_call 7
  refine (HH.out _ (HR.out.call hb13)).mono ?_
  rintro e w4 ⟨⟨G1, c1, vs1, T1, rfl, hO, hT1, hT2⟩, hb4⟩
  have hb14 := below_trans hb13 hb4
  have hO1 := hO.read
  rw [hT1.1] at hO1
  have HO1 := Lib.hid hO1
  have HT := Lib.hid (show Sq n T1 ∧ FormOf n (fn rows) (fn T1) from ⟨hT1, hT2⟩)
  clear hb1 hb2 hb12 hb3 hb13 hO hT1 hT2 hO1
  go_wp2_with fail
  go_at_call 8
  refine (HF.out _ (HR.out.call hb14)).mono ?_
  rintro e w5 ⟨⟨G2, T2, rfl, hra2, hs2, hf2⟩, hb5⟩
  have HRA := Lib.hid (show RowsAt w5 (some ⟨G2, 0, none⟩) n T1 from by rw [form_list HT.out.1 hs2 HT.out.2 hf2]; exact hra2)
  have hb15 := below_trans hb14 hb5
  have HO2 := Lib.hid (HO1.out.call hb5)
  clear HO1 hra2 hs2 hf2 hb5 hb4 hb14
  go_wp2_with fail
  go_at_call 5
  refine (ht0 _ (HG.out.call hb15)).mono ?_
  rintro e w6 ⟨rfl, hb6⟩
  have hb16 := below_trans hb15 hb6
  have hEE := Lib.hid (ERows_like (some ⟨G2, 0, none⟩) (some ⟨G1, 0, none⟩) n n c1 T1 w6 (HRA.out.call hb6) (HO2.out.call hb6) (by omega) (fun k hk => by rw [HT.out.1.2 k hk]; omega))
  clear hb15 hb6 HRA HO2
  go_wp2_with fail
  go_at_call 9
  refine (hEE.out).mono ?_
  rintro e w7 ⟨rfl, hb7⟩
  have hb17 := below_trans hb16 hb7
  clear hEE hb16 hb7 HT
  go_wp2_with fail
  go_at_call 4
  refine (HB.out _ (HK.out.call hb17)).mono ?_
  rintro e w8 ⟨rfl, hb8⟩
  have hbA := below_trans hb17 hb8
  clear hb17 hb8
  
  go_wp2_with fail
  go_loopg [14, 15] (n + 1) (fun g s i wr => ∃ (k : Nat) (sb : Bool), k ≤ n ∧ n - k < g ∧ s = .bool sb ∧ i = .int .i64 k ∧ RowKit.Hid ((sb = true → ∀ i, i < k → Lat n (fn rows) (fn next i) ∧ Lat n (fn next) (fn rows i)) ∧ (sb = false → ∃ i, i < n ∧ ¬ (Lat n (fn rows) (fn next i) ∧ Lat n (fn next) (fn rows i)))) ∧ Below w.heap.size w wr)
  case atStart => exact ⟨0, true, by omega, by omega, rfl, rfl, Lib.hid ⟨fun _ i hi => by omega, fun h => by cases h⟩, hbA⟩
  case round =>
    clear hbA
    obtain ⟨k, sb, hk, hg, rfl, rfl, HP, hbA⟩ := hrel
    by_cases hlt : k < n
    · cases sb
      · have hlti : (k : Int) < (n : Int) := by omega
        have hres := HSB.out false k (fun h => by cases h) (fun h => by cases h) HP.out.2
        subst hres
        clear HSB HP
        go_wp2_with fail
        go_at_call 11
        refine (HSame.out _ (HR.out.call hbA) (HK.out.call hbA)).mono ?_
        rintro e w9 ⟨rfl, hb9⟩
        have hbB := below_trans hbA hb9
        go_wp2_with fail
        go_at_call 5
        refine (htB _ (HG.out.call hbB)).mono ?_
        rintro e w10 ⟨rfl, hb10⟩
        have hbC := below_trans hbB hb10
        clear hbA hb9 hbB hb10
        
        go_wp2_with fail
        go_at_call 13
        refine (HHas.out _ (HR.out.call hbC) (HX.out.call hbC)).mono ?_
        rintro e w11 ⟨rfl, hb11⟩
        have hbD := below_trans hbC hb11
        go_wp2_with fail
        go_at_call 5
        refine (htX _ (HG.out.call hbD)).mono ?_
        rintro e w12 ⟨rfl, hb12⟩
        go_wp2_with fail
        go_ret
        exact ⟨rfl, below_trans hbD hb12⟩
        
      · have hlti : (k : Int) < (n : Int) := by omega
        have hk0 : (0 : Int) ≤ k := by omega
        have hH := HP.out.1 rfl
        have HH2 := Lib.hid hH
        obtain ⟨b3, o3, ra3, rc3, e3, c3, f31, f32, f33, f34⟩ := (HK.out.call hbA).2 k hlt
        obtain ⟨b4, o4, ra4, rc4, e4, c4, f41, f42, f43, f44⟩ := (HR.out.call hbA).2 k hlt
        cases e3
        cases e4
        rw [HSQ.out.2.2 k hlt] at c3 f31 f34
        rw [HSQ.out.1.2 k hlt] at c4 f41 f44
        have HI4 := Lib.hid (show IntsAt wr ra4 n (rows.getD k []) from f44)
        have z4 := World.block_lt_of_cell? _ _ c4
        have S1 := HS1.out k hlt wr (HR.out.call hbA) ra3 rc3 f34 f31 f32 f33
        have HS2' := Lib.hid (fun W (h : RowsAt W (some ⟨b2, off2, none⟩) n next) (h' : IntsAt W ra4 n (rows.getD k [])) => HS2.out k hlt W h ra4 rc4 h' f41 f42 f43)
        clear f31 f32 f33 f34 f41 f42 f43 f44 HP hH
        by_cases hl1 : Lat n (fn rows) (fn next k)
        · rw [show hasB n (fn rows) (fnL (next.getD k [])) = true from hasB_true hl1] at S1
          by_cases hl2 : Lat n (fn next) (fn rows k)
          · rw [show hasB n (fn next) (fnL (rows.getD k [])) = true from hasB_true hl2] at HS2'
            have HN := Lib.hid (show ∀ i, i < k + 1 → Lat n (fn rows) (fn next i) ∧ Lat n (fn next) (fn rows i) from fun i hi => by
              by_cases h : i < k
              · exact HH2.out i h
              · obtain rfl : i = k := by omega
                exact ⟨hl1, hl2⟩)
            clear hl1 hl2 HH2
            go_wp2_with fail
            go_at_call 10
            refine S1.mono ?_
            rintro e w9 ⟨rfl, hb9⟩
            have c4' : w9.cell? ⟨b, off + k, none⟩ = some (.slice ra4 n rc4) := by rw [hb9.cell (p := ⟨b, off + k, none⟩) z4]; exact c4
            go_wp2_with fail
            go_at_call 10
            refine (HS2'.out w9 (HK.out.call (below_trans hbA hb9)) (HI4.out.call hb9)).mono ?_
            rintro e w10 ⟨rfl, hb10⟩
            have hbB := below_trans hbA (below_trans hb9 hb10)
            go_wp2_with fail
            go_roundg (n - k)
            case measure => omega
            case rel => exact ⟨k + 1, true, by omega, by omega, rfl, by go_num, Lib.hid ⟨fun _ => HN.out, fun h => by cases h⟩, hbB⟩
          · rw [show hasB n (fn next) (fnL (rows.getD k [])) = false from hasB_false hl2] at HS2'
            have HN := Lib.hid (show ∃ i, i < n ∧ ¬ (Lat n (fn rows) (fn next i) ∧ Lat n (fn next) (fn rows i)) from ⟨k, hlt, fun h => hl2 h.2⟩)
            clear hl1 hl2 HH2
            go_wp2_with fail
            go_at_call 10
            refine S1.mono ?_
            rintro e w9 ⟨rfl, hb9⟩
            have c4' : w9.cell? ⟨b, off + k, none⟩ = some (.slice ra4 n rc4) := by rw [hb9.cell (p := ⟨b, off + k, none⟩) z4]; exact c4
            go_wp2_with fail
            go_at_call 10
            refine (HS2'.out w9 (HK.out.call (below_trans hbA hb9)) (HI4.out.call hb9)).mono ?_
            rintro e w10 ⟨rfl, hb10⟩
            have hbB := below_trans hbA (below_trans hb9 hb10)
            go_wp2_with fail
            go_roundg (n - k)
            case measure => omega
            case rel => exact ⟨k + 1, false, by omega, by omega, rfl, by go_num, Lib.hid ⟨fun h => (by cases h), fun _ => HN.out⟩, hbB⟩
        · rw [show hasB n (fn rows) (fnL (next.getD k [])) = false from hasB_false hl1] at S1
          have HN := Lib.hid (show ∃ i, i < n ∧ ¬ (Lat n (fn rows) (fn next i) ∧ Lat n (fn next) (fn rows i)) from ⟨k, hlt, fun h => hl1 h.1⟩)
          clear hl1 HH2
          go_wp2_with fail
          go_at_call 10
          refine S1.mono ?_
          rintro e w9 ⟨rfl, hb9⟩
          have hbB := below_trans hbA hb9
          go_wp2_with fail
          go_roundg (n - k)
          case measure => omega
          case rel => exact ⟨k + 1, false, by omega, by omega, rfl, by go_num, Lib.hid ⟨fun h => (by cases h), fun _ => HN.out⟩, hbB⟩
    · obtain rfl : n = k := by omega
      cases sb
      all_goals
        have hres := HSB.out _ _ (fun _ => rfl) HP.out.1 HP.out.2
        subst hres
        clear HSB HP
        go_wp2_with fail
        go_at_call 11
        refine (HSame.out _ (HR.out.call hbA) (HK.out.call hbA)).mono ?_
        rintro e w9 ⟨rfl, hb9⟩
        have hbB := below_trans hbA hb9
        go_wp2_with fail
        go_at_call 5
        refine (htB _ (HG.out.call hbB)).mono ?_
        rintro e w10 ⟨rfl, hb10⟩
        have hbC := below_trans hbB hb10
        clear hbA hb9 hbB hb10
        
        go_wp2_with fail
        go_at_call 13
        refine (HHas.out _ (HR.out.call hbC) (HX.out.call hbC)).mono ?_
        rintro e w11 ⟨rfl, hb11⟩
        have hbD := below_trans hbC hb11
        go_wp2_with fail
        go_at_call 5
        refine (htX _ (HG.out.call hbD)).mono ?_
        rintro e w12 ⟨rfl, hb12⟩
        go_wp2_with fail
        go_ret
        exact ⟨rfl, below_trans hbD hb12⟩
        

set_option maxRecDepth 100000 in
set_option maxHeartbeats 4000000 in
theorem says_G2 (a ak : Option Addr) (n cap m capk : Nat) (rows next : List (List Int)) (ax : Option Addr) (mx capx : Nat) (x : List Int) (w : World) (hr : RowsAt w a n rows) (hcap : n ≤ cap) (hs : Small n rows)
    (hk : RowsAt w ak m next) (hcapk : m ≤ capk) (hsk : Small m next) (hx : IntsAt w ax mx x) (hcx : mx ≤ capx) (hmx : capx ≤ 9223372036854775807 ∧ (ax = none → capx = 0)) (he : herErr rows = 0) (heK : herErr next = 0) (hnm : n = m) (hx1 : mx = n) (hx0 : anyOut (-100) 100 x = true) (hx2 : hasErr rows x = 1) (hx3 : hasV rows x = false) (hg : Handle w) :
    Calls Tryd.prog 3 #[.slice a n cap, .slice ak m capk, .slice ax mx capx] w fun e w' => e = .returned (.bool true) ∧ Below w.heap.size w w' := by
  subst hnm
  have hok := herErr_good hr.1 he
  have hn0 := hok.pos
  have hn3 := hok.le
  obtain ⟨b, off, rfl, hb0⟩ := hr.some hn0
  have h0 := fun W (h : RowsAt W (some ⟨b, off, none⟩) n rows) => HRows_any (some ⟨b, off, none⟩) n cap rows W h hcap hs
  have h1 := fun W (h : RowsAt W (some ⟨b, off, none⟩) n rows) => HCheck_any (some ⟨b, off, none⟩) n cap rows W h hcap hs
  have HF := Lib.hid (fun W (h : RowsAt W (some ⟨b, off, none⟩) n rows) => FormFn_good (some ⟨b, off, none⟩) n cap rows W h hcap hs he)
  have HH := Lib.hid (fun W (h : RowsAt W (some ⟨b, off, none⟩) n rows) => HHermite_any b off n cap rows W h hcap hok)
  have h4 := fun W (h : RowsAt W (some ⟨b, off, none⟩) n rows) (h' : IntsAt W ax mx x) => Has_any (some ⟨b, off, none⟩) ax n cap mx capx rows x W h h' hcap hs (by omega)
  have HAll := Lib.hid (fun W (h : IntsAt W ax mx x) => RAll_any ax mx capx x (-100) 100 W h (by omega))
  have HB := Lib.hid (fun W (h : RowsAt W ak n next) => HRows_any ak n capk next W h hcapk hsk)
  have ht0 := told 0
  rw [he] at h0 h1
  rw [errV_zero] at h1 ht0
  have HR := Lib.hid hr
  have HK := Lib.hid hk
  have HX := Lib.hid hx
  have HG := Lib.hid hg
  have hok' := herErr_good hk.1 heK
  have h3 := fun W (h : RowsAt W (some ⟨b, off, none⟩) n rows) (h' : RowsAt W ak n next) => Same_ok (some ⟨b, off, none⟩) ak n cap capk rows next W h h' hcap hcapk hs hsk he heK
  obtain ⟨r, hr0⟩ : ∃ r, r = sameB n (fn rows) (fn next) := ⟨_, rfl⟩
  rw [← hr0] at h3
  have HV := Lib.hid hr0
  have htB := ht0
  have hlm : ((n : Int) != (n : Int)) = false := by simp
  rw [heK] at HB
  have HSame := Lib.hid h3
  obtain ⟨b2, off2, rfl, hb2⟩ := hk.some hn0
  have HS1 := Lib.hid (fun i (hi : i < n) W (h : RowsAt W (some ⟨b, off, none⟩) n rows) (ra : Option Addr) (rc : Nat) (h' : IntsAt W ra n (next.getD i [])) (hc : n ≤ rc) (hm : rc ≤ maxLen) (hz : ra = none → rc = 0) => HSum_has n (some ⟨b, off, none⟩) cap rows ra rc (next.getD i []) W h h' hcap hc hm hz hok (fun j => Nat.le_trans (hok'.ent i j) (by omega)))
  have HS2 := Lib.hid (fun i (hi : i < n) W (h : RowsAt W (some ⟨b2, off2, none⟩) n next) (ra : Option Addr) (rc : Nat) (h' : IntsAt W ra n (rows.getD i [])) (hc : n ≤ rc) (hm : rc ≤ maxLen) (hz : ra = none → rc = 0) => HSum_has n (some ⟨b2, off2, none⟩) capk next ra rc (rows.getD i []) W h h' hcapk hc hm hz hok' (fun j => Nat.le_trans (hok.ent i j) (by omega)))
  have HSQ := Lib.hid (show Sq n rows ∧ Sq n next from ⟨hok.sq, hok'.sq⟩)
  have HSB := Lib.hid (fun (s : Bool) (k : Nat) (h1 : s = true → k = n) (h2 : s = true → ∀ i, i < k → Lat n (fn rows) (fn next i) ∧ Lat n (fn next) (fn rows i)) (h3 : s = false → ∃ i, i < n ∧ ¬ (Lat n (fn rows) (fn next i) ∧ Lat n (fn next) (fn rows i))) => same_of (s := s) (k := k) h1 h2 h3)
  rw [← HV.out] at HSB
  clear h3 hr0 hok' hb2
  have htX := told 1
  rw [hx2, hx3, errV_pos (by decide)] at h4
  rw [hx0] at HAll
  rw [errV_pos (by decide)] at htX
  have HHas := Lib.hid h4
  have hlx : ((mx : Int) != (n : Int)) = false := by simp; omega
  clear h4 hx2 hx3 hx1 hx0 hmx
  clear hr hs hk hsk hx hg he heK hok hb0
  go_enter Tryd.func3, Tryd.ntmps3
  go_wp2_with fail
  go_at_call 4
  refine (h0 _ HR.out).mono ?_
  rintro e w1 ⟨rfl, hb1⟩
  go_wp2_with fail
  go_at_call 6
  refine (h1 _ (HR.out.call hb1)).mono ?_
  rintro e w2 ⟨rfl, hb2⟩
  have hb12 := below_trans hb1 hb2
  go_wp2_with fail
  go_at_call 5
  refine (ht0 _ (HG.out.call hb12)).mono ?_
  rintro e w3 ⟨rfl, hb3⟩
  have hb13 := below_trans hb12 hb3
  go_wp2_with fail
  go_at_call 7
  refine (HH.out _ (HR.out.call hb13)).mono ?_
  rintro e w4 ⟨⟨G1, c1, vs1, T1, rfl, hO, hT1, hT2⟩, hb4⟩
  have hb14 := below_trans hb13 hb4
  have hO1 := hO.read
  rw [hT1.1] at hO1
  have HO1 := Lib.hid hO1
  have HT := Lib.hid (show Sq n T1 ∧ FormOf n (fn rows) (fn T1) from ⟨hT1, hT2⟩)
  clear hb1 hb2 hb12 hb3 hb13 hO hT1 hT2 hO1
  go_wp2_with fail
  go_at_call 8
  refine (HF.out _ (HR.out.call hb14)).mono ?_
  rintro e w5 ⟨⟨G2, T2, rfl, hra2, hs2, hf2⟩, hb5⟩
  have HRA := Lib.hid (show RowsAt w5 (some ⟨G2, 0, none⟩) n T1 from by rw [form_list HT.out.1 hs2 HT.out.2 hf2]; exact hra2)
  have hb15 := below_trans hb14 hb5
  have HO2 := Lib.hid (HO1.out.call hb5)
  clear HO1 hra2 hs2 hf2 hb5 hb4 hb14
  go_wp2_with fail
  go_at_call 5
  refine (ht0 _ (HG.out.call hb15)).mono ?_
  rintro e w6 ⟨rfl, hb6⟩
  have hb16 := below_trans hb15 hb6
  have hEE := Lib.hid (ERows_like (some ⟨G2, 0, none⟩) (some ⟨G1, 0, none⟩) n n c1 T1 w6 (HRA.out.call hb6) (HO2.out.call hb6) (by omega) (fun k hk => by rw [HT.out.1.2 k hk]; omega))
  clear hb15 hb6 HRA HO2
  go_wp2_with fail
  go_at_call 9
  refine (hEE.out).mono ?_
  rintro e w7 ⟨rfl, hb7⟩
  have hb17 := below_trans hb16 hb7
  clear hEE hb16 hb7 HT
  go_wp2_with fail
  go_at_call 4
  refine (HB.out _ (HK.out.call hb17)).mono ?_
  rintro e w8 ⟨rfl, hb8⟩
  have hbA := below_trans hb17 hb8
  clear hb17 hb8
  
  go_wp2_with fail
  go_loopg [14, 15] (n + 1) (fun g s i wr => ∃ (k : Nat) (sb : Bool), k ≤ n ∧ n - k < g ∧ s = .bool sb ∧ i = .int .i64 k ∧ RowKit.Hid ((sb = true → ∀ i, i < k → Lat n (fn rows) (fn next i) ∧ Lat n (fn next) (fn rows i)) ∧ (sb = false → ∃ i, i < n ∧ ¬ (Lat n (fn rows) (fn next i) ∧ Lat n (fn next) (fn rows i)))) ∧ Below w.heap.size w wr)
  case atStart => exact ⟨0, true, by omega, by omega, rfl, rfl, Lib.hid ⟨fun _ i hi => by omega, fun h => by cases h⟩, hbA⟩
  case round =>
    clear hbA
    obtain ⟨k, sb, hk, hg, rfl, rfl, HP, hbA⟩ := hrel
    by_cases hlt : k < n
    · cases sb
      · have hlti : (k : Int) < (n : Int) := by omega
        have hres := HSB.out false k (fun h => by cases h) (fun h => by cases h) HP.out.2
        subst hres
        clear HSB HP
        go_wp2_with fail
        go_at_call 11
        refine (HSame.out _ (HR.out.call hbA) (HK.out.call hbA)).mono ?_
        rintro e w9 ⟨rfl, hb9⟩
        have hbB := below_trans hbA hb9
        go_wp2_with fail
        go_at_call 5
        refine (htB _ (HG.out.call hbB)).mono ?_
        rintro e w10 ⟨rfl, hb10⟩
        have hbC := below_trans hbB hb10
        clear hbA hb9 hbB hb10
        
        go_wp2_with fail
        go_at_call 12
        refine (HAll.out _ (HX.out.call hbC)).mono ?_
        rintro e w13 ⟨rfl, rfl⟩
        go_wp2_with fail
        go_at_call 13
        refine (HHas.out _ (HR.out.call hbC) (HX.out.call hbC)).mono ?_
        rintro e w11 ⟨rfl, hb11⟩
        have hbD := below_trans hbC hb11
        go_wp2_with fail
        go_at_call 5
        refine (htX _ (HG.out.call hbD)).mono ?_
        rintro e w12 ⟨rfl, hb12⟩
        go_wp2_with fail
        go_ret
        exact ⟨rfl, below_trans hbD hb12⟩
        
        
      · have hlti : (k : Int) < (n : Int) := by omega
        have hk0 : (0 : Int) ≤ k := by omega
        have hH := HP.out.1 rfl
        have HH2 := Lib.hid hH
        obtain ⟨b3, o3, ra3, rc3, e3, c3, f31, f32, f33, f34⟩ := (HK.out.call hbA).2 k hlt
        obtain ⟨b4, o4, ra4, rc4, e4, c4, f41, f42, f43, f44⟩ := (HR.out.call hbA).2 k hlt
        cases e3
        cases e4
        rw [HSQ.out.2.2 k hlt] at c3 f31 f34
        rw [HSQ.out.1.2 k hlt] at c4 f41 f44
        have HI4 := Lib.hid (show IntsAt wr ra4 n (rows.getD k []) from f44)
        have z4 := World.block_lt_of_cell? _ _ c4
        have S1 := HS1.out k hlt wr (HR.out.call hbA) ra3 rc3 f34 f31 f32 f33
        have HS2' := Lib.hid (fun W (h : RowsAt W (some ⟨b2, off2, none⟩) n next) (h' : IntsAt W ra4 n (rows.getD k [])) => HS2.out k hlt W h ra4 rc4 h' f41 f42 f43)
        clear f31 f32 f33 f34 f41 f42 f43 f44 HP hH
        by_cases hl1 : Lat n (fn rows) (fn next k)
        · rw [show hasB n (fn rows) (fnL (next.getD k [])) = true from hasB_true hl1] at S1
          by_cases hl2 : Lat n (fn next) (fn rows k)
          · rw [show hasB n (fn next) (fnL (rows.getD k [])) = true from hasB_true hl2] at HS2'
            have HN := Lib.hid (show ∀ i, i < k + 1 → Lat n (fn rows) (fn next i) ∧ Lat n (fn next) (fn rows i) from fun i hi => by
              by_cases h : i < k
              · exact HH2.out i h
              · obtain rfl : i = k := by omega
                exact ⟨hl1, hl2⟩)
            clear hl1 hl2 HH2
            go_wp2_with fail
            go_at_call 10
            refine S1.mono ?_
            rintro e w9 ⟨rfl, hb9⟩
            have c4' : w9.cell? ⟨b, off + k, none⟩ = some (.slice ra4 n rc4) := by rw [hb9.cell (p := ⟨b, off + k, none⟩) z4]; exact c4
            go_wp2_with fail
            go_at_call 10
            refine (HS2'.out w9 (HK.out.call (below_trans hbA hb9)) (HI4.out.call hb9)).mono ?_
            rintro e w10 ⟨rfl, hb10⟩
            have hbB := below_trans hbA (below_trans hb9 hb10)
            go_wp2_with fail
            go_roundg (n - k)
            case measure => omega
            case rel => exact ⟨k + 1, true, by omega, by omega, rfl, by go_num, Lib.hid ⟨fun _ => HN.out, fun h => by cases h⟩, hbB⟩
          · rw [show hasB n (fn next) (fnL (rows.getD k [])) = false from hasB_false hl2] at HS2'
            have HN := Lib.hid (show ∃ i, i < n ∧ ¬ (Lat n (fn rows) (fn next i) ∧ Lat n (fn next) (fn rows i)) from ⟨k, hlt, fun h => hl2 h.2⟩)
            clear hl1 hl2 HH2
            go_wp2_with fail
            go_at_call 10
            refine S1.mono ?_
            rintro e w9 ⟨rfl, hb9⟩
            have c4' : w9.cell? ⟨b, off + k, none⟩ = some (.slice ra4 n rc4) := by rw [hb9.cell (p := ⟨b, off + k, none⟩) z4]; exact c4
            go_wp2_with fail
            go_at_call 10
            refine (HS2'.out w9 (HK.out.call (below_trans hbA hb9)) (HI4.out.call hb9)).mono ?_
            rintro e w10 ⟨rfl, hb10⟩
            have hbB := below_trans hbA (below_trans hb9 hb10)
            go_wp2_with fail
            go_roundg (n - k)
            case measure => omega
            case rel => exact ⟨k + 1, false, by omega, by omega, rfl, by go_num, Lib.hid ⟨fun h => (by cases h), fun _ => HN.out⟩, hbB⟩
        · rw [show hasB n (fn rows) (fnL (next.getD k [])) = false from hasB_false hl1] at S1
          have HN := Lib.hid (show ∃ i, i < n ∧ ¬ (Lat n (fn rows) (fn next i) ∧ Lat n (fn next) (fn rows i)) from ⟨k, hlt, fun h => hl1 h.1⟩)
          clear hl1 HH2
          go_wp2_with fail
          go_at_call 10
          refine S1.mono ?_
          rintro e w9 ⟨rfl, hb9⟩
          have hbB := below_trans hbA hb9
          go_wp2_with fail
          go_roundg (n - k)
          case measure => omega
          case rel => exact ⟨k + 1, false, by omega, by omega, rfl, by go_num, Lib.hid ⟨fun h => (by cases h), fun _ => HN.out⟩, hbB⟩
    · obtain rfl : n = k := by omega
      cases sb
      all_goals
        have hres := HSB.out _ _ (fun _ => rfl) HP.out.1 HP.out.2
        subst hres
        clear HSB HP
        go_wp2_with fail
        go_at_call 11
        refine (HSame.out _ (HR.out.call hbA) (HK.out.call hbA)).mono ?_
        rintro e w9 ⟨rfl, hb9⟩
        have hbB := below_trans hbA hb9
        go_wp2_with fail
        go_at_call 5
        refine (htB _ (HG.out.call hbB)).mono ?_
        rintro e w10 ⟨rfl, hb10⟩
        have hbC := below_trans hbB hb10
        clear hbA hb9 hbB hb10
        
        go_wp2_with fail
        go_at_call 12
        refine (HAll.out _ (HX.out.call hbC)).mono ?_
        rintro e w13 ⟨rfl, rfl⟩
        go_wp2_with fail
        go_at_call 13
        refine (HHas.out _ (HR.out.call hbC) (HX.out.call hbC)).mono ?_
        rintro e w11 ⟨rfl, hb11⟩
        have hbD := below_trans hbC hb11
        go_wp2_with fail
        go_at_call 5
        refine (htX _ (HG.out.call hbD)).mono ?_
        rintro e w12 ⟨rfl, hb12⟩
        go_wp2_with fail
        go_ret
        exact ⟨rfl, below_trans hbD hb12⟩
        
        

set_option maxRecDepth 100000 in
set_option maxHeartbeats 4000000 in
theorem says_G3 (a ak : Option Addr) (n cap m capk : Nat) (rows next : List (List Int)) (ax : Option Addr) (mx capx : Nat) (x : List Int) (w : World) (hr : RowsAt w a n rows) (hcap : n ≤ cap) (hs : Small n rows)
    (hk : RowsAt w ak m next) (hcapk : m ≤ capk) (hsk : Small m next) (hx : IntsAt w ax mx x) (hcx : mx ≤ capx) (hmx : capx ≤ 9223372036854775807 ∧ (ax = none → capx = 0)) (he : herErr rows = 0) (heK : herErr next = 0) (hnm : n = m) (hx1 : mx = n) (hx0 : anyOut (-100) 100 x = false) (hx2 : hasErr rows x = 0) (hx3 : hasV rows x = hasB n (fn rows) (fnL x)) (hg : Handle w) :
    Calls Tryd.prog 3 #[.slice a n cap, .slice ak m capk, .slice ax mx capx] w fun e w' => e = .returned (.bool true) ∧ Below w.heap.size w w' := by
  subst hnm
  have hok := herErr_good hr.1 he
  have hn0 := hok.pos
  have hn3 := hok.le
  obtain ⟨b, off, rfl, hb0⟩ := hr.some hn0
  have h0 := fun W (h : RowsAt W (some ⟨b, off, none⟩) n rows) => HRows_any (some ⟨b, off, none⟩) n cap rows W h hcap hs
  have h1 := fun W (h : RowsAt W (some ⟨b, off, none⟩) n rows) => HCheck_any (some ⟨b, off, none⟩) n cap rows W h hcap hs
  have HF := Lib.hid (fun W (h : RowsAt W (some ⟨b, off, none⟩) n rows) => FormFn_good (some ⟨b, off, none⟩) n cap rows W h hcap hs he)
  have HH := Lib.hid (fun W (h : RowsAt W (some ⟨b, off, none⟩) n rows) => HHermite_any b off n cap rows W h hcap hok)
  have h4 := fun W (h : RowsAt W (some ⟨b, off, none⟩) n rows) (h' : IntsAt W ax mx x) => Has_any (some ⟨b, off, none⟩) ax n cap mx capx rows x W h h' hcap hs (by omega)
  have HAll := Lib.hid (fun W (h : IntsAt W ax mx x) => RAll_any ax mx capx x (-100) 100 W h (by omega))
  have HB := Lib.hid (fun W (h : RowsAt W ak n next) => HRows_any ak n capk next W h hcapk hsk)
  have ht0 := told 0
  rw [he] at h0 h1
  rw [errV_zero] at h1 ht0
  have HR := Lib.hid hr
  have HK := Lib.hid hk
  have HX := Lib.hid hx
  have HG := Lib.hid hg
  have hok' := herErr_good hk.1 heK
  have h3 := fun W (h : RowsAt W (some ⟨b, off, none⟩) n rows) (h' : RowsAt W ak n next) => Same_ok (some ⟨b, off, none⟩) ak n cap capk rows next W h h' hcap hcapk hs hsk he heK
  obtain ⟨r, hr0⟩ : ∃ r, r = sameB n (fn rows) (fn next) := ⟨_, rfl⟩
  rw [← hr0] at h3
  have HV := Lib.hid hr0
  have htB := ht0
  have hlm : ((n : Int) != (n : Int)) = false := by simp
  rw [heK] at HB
  have HSame := Lib.hid h3
  obtain ⟨b2, off2, rfl, hb2⟩ := hk.some hn0
  have HS1 := Lib.hid (fun i (hi : i < n) W (h : RowsAt W (some ⟨b, off, none⟩) n rows) (ra : Option Addr) (rc : Nat) (h' : IntsAt W ra n (next.getD i [])) (hc : n ≤ rc) (hm : rc ≤ maxLen) (hz : ra = none → rc = 0) => HSum_has n (some ⟨b, off, none⟩) cap rows ra rc (next.getD i []) W h h' hcap hc hm hz hok (fun j => Nat.le_trans (hok'.ent i j) (by omega)))
  have HS2 := Lib.hid (fun i (hi : i < n) W (h : RowsAt W (some ⟨b2, off2, none⟩) n next) (ra : Option Addr) (rc : Nat) (h' : IntsAt W ra n (rows.getD i [])) (hc : n ≤ rc) (hm : rc ≤ maxLen) (hz : ra = none → rc = 0) => HSum_has n (some ⟨b2, off2, none⟩) capk next ra rc (rows.getD i []) W h h' hcapk hc hm hz hok' (fun j => Nat.le_trans (hok.ent i j) (by omega)))
  have HSQ := Lib.hid (show Sq n rows ∧ Sq n next from ⟨hok.sq, hok'.sq⟩)
  have HSB := Lib.hid (fun (s : Bool) (k : Nat) (h1 : s = true → k = n) (h2 : s = true → ∀ i, i < k → Lat n (fn rows) (fn next i) ∧ Lat n (fn next) (fn rows i)) (h3 : s = false → ∃ i, i < n ∧ ¬ (Lat n (fn rows) (fn next i) ∧ Lat n (fn next) (fn rows i))) => same_of (s := s) (k := k) h1 h2 h3)
  rw [← HV.out] at HSB
  clear h3 hr0 hok' hb2
  obtain rfl : n = mx := hx1.symm
  have HSumX := Lib.hid (fun W (h : RowsAt W (some ⟨b, off, none⟩) n rows) (h' : IntsAt W ax n x) => HSum_has n (some ⟨b, off, none⟩) cap rows ax capx x W h h' hcap hcx (by unfold maxLen; omega) hmx.2 hok (in100 hx0))
  have htX := told 0
  rw [hx2, hx3, errV_zero] at h4
  rw [hx0] at HAll
  rw [errV_zero] at htX
  generalize hasB n (fn rows) (fnL x) = V at *
  have HHas := Lib.hid h4
  have hlx : ((n : Int) != (n : Int)) = false := by simp
  clear h4 hx2 hx3 hx0 hmx
  cases V
  all_goals
    clear hr hs hk hsk hx hg he heK hok hb0
    go_enter Tryd.func3, Tryd.ntmps3
    go_wp2_with fail
    go_at_call 4
    refine (h0 _ HR.out).mono ?_
    rintro e w1 ⟨rfl, hb1⟩
    go_wp2_with fail
    go_at_call 6
    refine (h1 _ (HR.out.call hb1)).mono ?_
    rintro e w2 ⟨rfl, hb2⟩
    have hb12 := below_trans hb1 hb2
    go_wp2_with fail
    go_at_call 5
    refine (ht0 _ (HG.out.call hb12)).mono ?_
    rintro e w3 ⟨rfl, hb3⟩
    have hb13 := below_trans hb12 hb3
    go_wp2_with fail
    go_at_call 7
    refine (HH.out _ (HR.out.call hb13)).mono ?_
    rintro e w4 ⟨⟨G1, c1, vs1, T1, rfl, hO, hT1, hT2⟩, hb4⟩
    have hb14 := below_trans hb13 hb4
    have hO1 := hO.read
    rw [hT1.1] at hO1
    have HO1 := Lib.hid hO1
    have HT := Lib.hid (show Sq n T1 ∧ FormOf n (fn rows) (fn T1) from ⟨hT1, hT2⟩)
    clear hb1 hb2 hb12 hb3 hb13 hO hT1 hT2 hO1
    go_wp2_with fail
    go_at_call 8
    refine (HF.out _ (HR.out.call hb14)).mono ?_
    rintro e w5 ⟨⟨G2, T2, rfl, hra2, hs2, hf2⟩, hb5⟩
    have HRA := Lib.hid (show RowsAt w5 (some ⟨G2, 0, none⟩) n T1 from by rw [form_list HT.out.1 hs2 HT.out.2 hf2]; exact hra2)
    have hb15 := below_trans hb14 hb5
    have HO2 := Lib.hid (HO1.out.call hb5)
    clear HO1 hra2 hs2 hf2 hb5 hb4 hb14
    go_wp2_with fail
    go_at_call 5
    refine (ht0 _ (HG.out.call hb15)).mono ?_
    rintro e w6 ⟨rfl, hb6⟩
    have hb16 := below_trans hb15 hb6
    have hEE := Lib.hid (ERows_like (some ⟨G2, 0, none⟩) (some ⟨G1, 0, none⟩) n n c1 T1 w6 (HRA.out.call hb6) (HO2.out.call hb6) (by omega) (fun k hk => by rw [HT.out.1.2 k hk]; omega))
    clear hb15 hb6 HRA HO2
    go_wp2_with fail
    go_at_call 9
    refine (hEE.out).mono ?_
    rintro e w7 ⟨rfl, hb7⟩
    have hb17 := below_trans hb16 hb7
    clear hEE hb16 hb7 HT
    go_wp2_with fail
    go_at_call 4
    refine (HB.out _ (HK.out.call hb17)).mono ?_
    rintro e w8 ⟨rfl, hb8⟩
    have hbA := below_trans hb17 hb8
    clear hb17 hb8
    
    go_wp2_with fail
    go_loopg [14, 15] (n + 1) (fun g s i wr => ∃ (k : Nat) (sb : Bool), k ≤ n ∧ n - k < g ∧ s = .bool sb ∧ i = .int .i64 k ∧ RowKit.Hid ((sb = true → ∀ i, i < k → Lat n (fn rows) (fn next i) ∧ Lat n (fn next) (fn rows i)) ∧ (sb = false → ∃ i, i < n ∧ ¬ (Lat n (fn rows) (fn next i) ∧ Lat n (fn next) (fn rows i)))) ∧ Below w.heap.size w wr)
    case atStart => exact ⟨0, true, by omega, by omega, rfl, rfl, Lib.hid ⟨fun _ i hi => by omega, fun h => by cases h⟩, hbA⟩
    case round =>
      clear hbA
      obtain ⟨k, sb, hk, hg, rfl, rfl, HP, hbA⟩ := hrel
      by_cases hlt : k < n
      · cases sb
        · have hlti : (k : Int) < (n : Int) := by omega
          have hres := HSB.out false k (fun h => by cases h) (fun h => by cases h) HP.out.2
          subst hres
          clear HSB HP
          go_wp2_with fail
          go_at_call 11
          refine (HSame.out _ (HR.out.call hbA) (HK.out.call hbA)).mono ?_
          rintro e w9 ⟨rfl, hb9⟩
          have hbB := below_trans hbA hb9
          go_wp2_with fail
          go_at_call 5
          refine (htB _ (HG.out.call hbB)).mono ?_
          rintro e w10 ⟨rfl, hb10⟩
          have hbC := below_trans hbB hb10
          clear hbA hb9 hbB hb10
          
          go_wp2_with fail
          go_at_call 12
          refine (HAll.out _ (HX.out.call hbC)).mono ?_
          rintro e w13 ⟨rfl, rfl⟩
          go_wp2_with fail
          go_at_call 10
          refine (HSumX.out _ (HR.out.call hbC) (HX.out.call hbC)).mono ?_
          rintro e w14 ⟨rfl, hb14⟩
          have hbC' := below_trans hbC hb14
          clear hbC hb14
          have hbC := hbC'
          clear hbC'
          go_wp2_with fail
          go_at_call 13
          refine (HHas.out _ (HR.out.call hbC) (HX.out.call hbC)).mono ?_
          rintro e w11 ⟨rfl, hb11⟩
          have hbD := below_trans hbC hb11
          go_wp2_with fail
          go_at_call 5
          refine (htX _ (HG.out.call hbD)).mono ?_
          rintro e w12 ⟨rfl, hb12⟩
          go_wp2_with fail
          go_ret
          exact ⟨rfl, below_trans hbD hb12⟩
          
          
        · have hlti : (k : Int) < (n : Int) := by omega
          have hk0 : (0 : Int) ≤ k := by omega
          have hH := HP.out.1 rfl
          have HH2 := Lib.hid hH
          obtain ⟨b3, o3, ra3, rc3, e3, c3, f31, f32, f33, f34⟩ := (HK.out.call hbA).2 k hlt
          obtain ⟨b4, o4, ra4, rc4, e4, c4, f41, f42, f43, f44⟩ := (HR.out.call hbA).2 k hlt
          cases e3
          cases e4
          rw [HSQ.out.2.2 k hlt] at c3 f31 f34
          rw [HSQ.out.1.2 k hlt] at c4 f41 f44
          have HI4 := Lib.hid (show IntsAt wr ra4 n (rows.getD k []) from f44)
          have z4 := World.block_lt_of_cell? _ _ c4
          have S1 := HS1.out k hlt wr (HR.out.call hbA) ra3 rc3 f34 f31 f32 f33
          have HS2' := Lib.hid (fun W (h : RowsAt W (some ⟨b2, off2, none⟩) n next) (h' : IntsAt W ra4 n (rows.getD k [])) => HS2.out k hlt W h ra4 rc4 h' f41 f42 f43)
          clear f31 f32 f33 f34 f41 f42 f43 f44 HP hH
          by_cases hl1 : Lat n (fn rows) (fn next k)
          · rw [show hasB n (fn rows) (fnL (next.getD k [])) = true from hasB_true hl1] at S1
            by_cases hl2 : Lat n (fn next) (fn rows k)
            · rw [show hasB n (fn next) (fnL (rows.getD k [])) = true from hasB_true hl2] at HS2'
              have HN := Lib.hid (show ∀ i, i < k + 1 → Lat n (fn rows) (fn next i) ∧ Lat n (fn next) (fn rows i) from fun i hi => by
                by_cases h : i < k
                · exact HH2.out i h
                · obtain rfl : i = k := by omega
                  exact ⟨hl1, hl2⟩)
              clear hl1 hl2 HH2
              go_wp2_with fail
              go_at_call 10
              refine S1.mono ?_
              rintro e w9 ⟨rfl, hb9⟩
              have c4' : w9.cell? ⟨b, off + k, none⟩ = some (.slice ra4 n rc4) := by rw [hb9.cell (p := ⟨b, off + k, none⟩) z4]; exact c4
              go_wp2_with fail
              go_at_call 10
              refine (HS2'.out w9 (HK.out.call (below_trans hbA hb9)) (HI4.out.call hb9)).mono ?_
              rintro e w10 ⟨rfl, hb10⟩
              have hbB := below_trans hbA (below_trans hb9 hb10)
              go_wp2_with fail
              go_roundg (n - k)
              case measure => omega
              case rel => exact ⟨k + 1, true, by omega, by omega, rfl, by go_num, Lib.hid ⟨fun _ => HN.out, fun h => by cases h⟩, hbB⟩
            · rw [show hasB n (fn next) (fnL (rows.getD k [])) = false from hasB_false hl2] at HS2'
              have HN := Lib.hid (show ∃ i, i < n ∧ ¬ (Lat n (fn rows) (fn next i) ∧ Lat n (fn next) (fn rows i)) from ⟨k, hlt, fun h => hl2 h.2⟩)
              clear hl1 hl2 HH2
              go_wp2_with fail
              go_at_call 10
              refine S1.mono ?_
              rintro e w9 ⟨rfl, hb9⟩
              have c4' : w9.cell? ⟨b, off + k, none⟩ = some (.slice ra4 n rc4) := by rw [hb9.cell (p := ⟨b, off + k, none⟩) z4]; exact c4
              go_wp2_with fail
              go_at_call 10
              refine (HS2'.out w9 (HK.out.call (below_trans hbA hb9)) (HI4.out.call hb9)).mono ?_
              rintro e w10 ⟨rfl, hb10⟩
              have hbB := below_trans hbA (below_trans hb9 hb10)
              go_wp2_with fail
              go_roundg (n - k)
              case measure => omega
              case rel => exact ⟨k + 1, false, by omega, by omega, rfl, by go_num, Lib.hid ⟨fun h => (by cases h), fun _ => HN.out⟩, hbB⟩
          · rw [show hasB n (fn rows) (fnL (next.getD k [])) = false from hasB_false hl1] at S1
            have HN := Lib.hid (show ∃ i, i < n ∧ ¬ (Lat n (fn rows) (fn next i) ∧ Lat n (fn next) (fn rows i)) from ⟨k, hlt, fun h => hl1 h.1⟩)
            clear hl1 HH2
            go_wp2_with fail
            go_at_call 10
            refine S1.mono ?_
            rintro e w9 ⟨rfl, hb9⟩
            have hbB := below_trans hbA hb9
            go_wp2_with fail
            go_roundg (n - k)
            case measure => omega
            case rel => exact ⟨k + 1, false, by omega, by omega, rfl, by go_num, Lib.hid ⟨fun h => (by cases h), fun _ => HN.out⟩, hbB⟩
      · obtain rfl : n = k := by omega
        cases sb
        all_goals
          have hres := HSB.out _ _ (fun _ => rfl) HP.out.1 HP.out.2
          subst hres
          clear HSB HP
          go_wp2_with fail
          go_at_call 11
          refine (HSame.out _ (HR.out.call hbA) (HK.out.call hbA)).mono ?_
          rintro e w9 ⟨rfl, hb9⟩
          have hbB := below_trans hbA hb9
          go_wp2_with fail
          go_at_call 5
          refine (htB _ (HG.out.call hbB)).mono ?_
          rintro e w10 ⟨rfl, hb10⟩
          have hbC := below_trans hbB hb10
          clear hbA hb9 hbB hb10
          
          go_wp2_with fail
          go_at_call 12
          refine (HAll.out _ (HX.out.call hbC)).mono ?_
          rintro e w13 ⟨rfl, rfl⟩
          go_wp2_with fail
          go_at_call 10
          refine (HSumX.out _ (HR.out.call hbC) (HX.out.call hbC)).mono ?_
          rintro e w14 ⟨rfl, hb14⟩
          have hbC' := below_trans hbC hb14
          clear hbC hb14
          have hbC := hbC'
          clear hbC'
          go_wp2_with fail
          go_at_call 13
          refine (HHas.out _ (HR.out.call hbC) (HX.out.call hbC)).mono ?_
          rintro e w11 ⟨rfl, hb11⟩
          have hbD := below_trans hbC hb11
          go_wp2_with fail
          go_at_call 5
          refine (htX _ (HG.out.call hbD)).mono ?_
          rintro e w12 ⟨rfl, hb12⟩
          go_wp2_with fail
          go_ret
          exact ⟨rfl, below_trans hbD hb12⟩
          
          

theorem HermiteSays_any (a : Option Addr) (n cap : Nat) (rows : List (List Int)) {w1 : World} (hr : RowsAt w1 a n rows) (hcap : n ≤ cap) (hs : Small n rows) (ak : Option Addr) (m capk : Nat) (next : List (List Int)) {w2 : World} (hk : RowsAt w2 ak m next) (hcapk : m ≤ capk) (hsk : Small m next)
    (ax : Option Addr) (mx capx : Nat) (x : List Int) {w3 : World} (hx : IntsAt w3 ax mx x) (hcx : mx ≤ capx) (hmx : capx ≤ 9223372036854775807 ∧ (ax = none → capx = 0)) (w : World) (e1 : w1 = w) (e2 : w2 = w) (e3 : w3 = w) (hg : Handle w) :
    Calls Tryd.prog 3 #[.slice a n cap, .slice ak m capk, .slice ax mx capx] w fun e w' => e = .returned (.bool true) ∧ Below w.heap.size w w' := by
  subst e1
  subst e2
  subst e3
  by_cases he : herErr rows = 0
  · by_cases heK : herErr next = 0
    · by_cases hnm : n = m
      ·
        rcases x_cases rows x he with ⟨hx1, hx2, hx3⟩ | ⟨hx1, hx0, hx2, hx3⟩ | ⟨hx1, hx0, hx2, hx3⟩
        · exact says_G1 a ak n cap m capk rows next ax mx capx x _ hr hcap hs hk hcapk hsk hx hcx hmx he heK hnm (by rw [← hx.1, ← hr.1]; exact hx1) hx2 hx3 hg
        · exact says_G2 a ak n cap m capk rows next ax mx capx x _ hr hcap hs hk hcapk hsk hx hcx hmx he heK hnm (by rw [← hx.1, ← hr.1]; exact hx1) hx0 hx2 hx3 hg
        · exact says_G3 a ak n cap m capk rows next ax mx capx x _ hr hcap hs hk hcapk hsk hx hcx hmx he heK hnm (by rw [← hx.1, ← hr.1]; exact hx1) hx0 hx2 (by rw [hx3, hr.1]) hg
      ·
        rcases x_cases rows x he with ⟨hx1, hx2, hx3⟩ | ⟨hx1, hx0, hx2, hx3⟩ | ⟨hx1, hx0, hx2, hx3⟩
        · exact says_B31 a ak n cap m capk rows next ax mx capx x _ hr hcap hs hk hcapk hsk hx hcx hmx he heK hnm (by rw [← hx.1, ← hr.1]; exact hx1) hx2 hx3 hg
        · exact says_B32 a ak n cap m capk rows next ax mx capx x _ hr hcap hs hk hcapk hsk hx hcx hmx he heK hnm (by rw [← hx.1, ← hr.1]; exact hx1) hx0 hx2 hx3 hg
        · exact says_B33 a ak n cap m capk rows next ax mx capx x _ hr hcap hs hk hcapk hsk hx hcx hmx he heK hnm (by rw [← hx.1, ← hr.1]; exact hx1) hx0 hx2 (by rw [hx3, hr.1]) hg
    ·
      rcases x_cases rows x he with ⟨hx1, hx2, hx3⟩ | ⟨hx1, hx0, hx2, hx3⟩ | ⟨hx1, hx0, hx2, hx3⟩
      · exact says_B21 a ak n cap m capk rows next ax mx capx x _ hr hcap hs hk hcapk hsk hx hcx hmx he heK (by rw [← hx.1, ← hr.1]; exact hx1) hx2 hx3 hg
      · exact says_B22 a ak n cap m capk rows next ax mx capx x _ hr hcap hs hk hcapk hsk hx hcx hmx he heK (by rw [← hx.1, ← hr.1]; exact hx1) hx0 hx2 hx3 hg
      · exact says_B23 a ak n cap m capk rows next ax mx capx x _ hr hcap hs hk hcapk hsk hx hcx hmx he heK (by rw [← hx.1, ← hr.1]; exact hx1) hx0 hx2 (by rw [hx3, hr.1]) hg
  · exact says_bad a ak n cap m capk rows next ax mx capx x _ hr hcap hs hk hcapk hsk hx hcx hmx he hg
theorem frame_own : ownKnob Tryd.prog.godebug = none := by kernel_rfl
theorem frame_laid : laidOutB Tryd.prog = true := by kernel_rfl
theorem frame_et : Tryd.prog.globalNamed "errors.errorType" = some 0 := by kernel_rfl
theorem frame_rt : (Tryd.prog.cutTypes.find? (·.1 == "internal/reflectlite.rtype")).map (·.2) = some 69 := by kernel_rfl
theorem frame_oneRow : ((List.range 111).filter fun t => Tryd.prog.rowNamed t [101, 114, 114, 111, 114]) = [27] := by kernel_rfl
theorem frame_size : Tryd.prog.types.size = 111 := by kernel_rfl
theorem handle_of_laid {W : World} (h : laidMetH Tryd.prog Rows.hermiteSaysRow.laid W) : Handle W := by
  have h' : laidMet Tryd.prog [] W ∧ handlesMet Tryd.prog Rows.hermiteSaysRow.laid W := h
  obtain ⟨name, u, ty, e1, e2, e3, e4, e5⟩ := h'.2 _ (List.mem_singleton.2 rfl)
  have en : name = [101, 114, 114, 111, 114] := (Option.some.inj e1).symm
  subst en
  obtain rfl := Option.some.inj (frame_rt.symm.trans e2)
  have hm : ty ∈ (List.range 111).filter fun t => Tryd.prog.rowNamed t [101, 114, 114, 111, 114] := List.mem_filter.2 ⟨List.mem_range.2 (by rw [← frame_size]; exact e3), e4⟩
  rw [frame_oneRow] at hm
  obtain rfl := List.mem_singleton.1 hm
  have hh : typeHandle Tryd.prog 27 = .pointer (some ⟨1, 27, none⟩) := by kernel_rfl
  rw [hh] at e5
  unfold Handle
  simpa using World.var?_cell frame_et e5 0
noncomputable def laidWorld (os : Os) : World :=
  let w0 := World.holding Tryd.prog os ⟨#[], #[], []⟩
  { w0 with heap := w0.heap.modify 0 fun
      | .cells _ t frozen => .cells #[.iface 69 (.agg #[.pointer (some ⟨1, 27, none⟩)])] t frozen
      | o => o }
theorem laidWorld_met (os : Os) (args : Array Value) : laidMetH Tryd.prog Rows.hermiteSaysRow.laid ((laidWorld os).forCall (fun _ _ => 0) ⟨#[], args, []⟩).memory :=
  laidMetH_of_parts (laidMet_nil _ _) (by kernel_rfl)
set_option maxRecDepth 100000 in
theorem frame_lifted (os : Os) (started : os.Started) (H : Type) (enc : TypeId × Value → H) :
    ReturnsInHanded {} Tryd.checked os 3 .any (fun w args => (Rows.hermiteSaysSpec.pre enc Tryd.prog Tryd.f3 Rows.hermiteSaysRow.domain false w args ∧ laidMetH Tryd.prog Rows.hermiteSaysRow.laid w) ∧ sizedMet enc Tryd.prog Tryd.f3 (OpenSpec.ofChange Rows.hermiteSaysSpec) false w args) (Rows.hermiteSaysSpec.post enc Tryd.prog Tryd.f3 false true false false) := by
  refine returnsInHanded_of_change_and (C := Tryd.checked) (X := (fun w _ => laidMetH Tryd.prog Rows.hermiteSaysRow.laid w)) (fun _ _ _ hh h => h.of_heap hh) frame_own started (by kernel_rfl) Tryd.func3
    (ChangeSpec.witness_at (enc := enc) (C := Tryd.checked) (os := os) (X := (fun w _ => laidMetH Tryd.prog Rows.hermiteSaysRow.laid w)) false (laidWorld os) #[.slice none 0 0, .slice none 0 0, .slice none 0 0] 8 rfl (by kernel_rfl) (by kernel_rfl) (by kernel_rfl) (by kernel_rfl) (by kernel_rfl) (laidWorld_met os _)) ?_
  intro W base args ds gs before hval0 hW hcnd _ hLaid _
  have hval : ∀ (j : Nat) t v, Tryd.f3.params[j]? = some t → args[j]? = some v → Value.okWide Tryd.prog W .any base t v := hval0
  have hW' := hW
  obtain ⟨p, q, hA0, hV, rfl, hfz, hnd⟩ := hW
  have hA : DataW.TrodAll enc Tryd.prog W 0 (fun _ => true) true Tryd.f3.params.toList args.toList ds p := hA0
  rw [Tryd.params3] at hA hval
  obtain ⟨v0, vs0, d0, ds0, p0, q0, hargs, rfl, rfl, h0, r0⟩ := trodAll_cons hA
  obtain ⟨v1, vs1, d1, ds1, p1, q1, rfl, rfl, rfl, h1, r1⟩ := trodAll_cons r0
  obtain ⟨v2, vs2, d2, ds2, p2, q2, rfl, rfl, rfl, h2, r2⟩ := trodAll_cons r1
  obtain ⟨rfl, rfl, rfl⟩ := trodAll_nil r2
  obtain rfl : args = #[v0, v1, v2] := by cases args; simp_all
  obtain ⟨rfl, rfl⟩ := trodVars_none hV
  have k0 := h0
  have lt0 : ∀ x ∈ p0, x.block < W.heap.size := by obtain ⟨m, hm⟩ := k0; exact DataW.trod_lt m _ _ _ hm
  obtain ⟨a0, len0, cap0, rfl⟩ := okWide_slice Tryd.underlying22 (hval 0 22 v0 rfl rfl)
  obtain ⟨xs0, hxs0, hcap0, hmax0⟩ := open_rowsAt Tryd.underlying22 Tryd.underlying23 Tryd.underlying3 (by kernel_rfl) (by kernel_rfl) h0
  have k1 := h1
  have lt1 : ∀ x ∈ p1, x.block < W.heap.size := by obtain ⟨m, hm⟩ := k1; exact DataW.trod_lt m _ _ _ hm
  obtain ⟨a1, len1, cap1, rfl⟩ := okWide_slice Tryd.underlying22 (hval 1 22 v1 rfl rfl)
  obtain ⟨xs1, hxs1, hcap1, hmax1⟩ := open_rowsAt Tryd.underlying22 Tryd.underlying23 Tryd.underlying3 (by kernel_rfl) (by kernel_rfl) h1
  have k2 := h2
  have lt2 : ∀ x ∈ p2, x.block < W.heap.size := by obtain ⟨m, hm⟩ := k2; exact DataW.trod_lt m _ _ _ hm
  obtain ⟨a2, len2, cap2, rfl⟩ := okWide_slice Tryd.underlying23 (hval 2 23 v2 rfl rfl)
  obtain ⟨xs2, hxs2, hcap2, hmax2⟩ := open_intsAt Tryd.underlying23 Tryd.underlying3 (by kernel_rfl) h2
  clear hA0 hval0
  refine (HermiteSays_any a0 len0 cap0 xs0 hxs0 hcap0 hmax0 a1 len1 cap1 xs1 hxs1 hcap1 hmax1 a2 len2 cap2 xs2 hxs2 hcap2 hmax2 W rfl rfl rfl (handle_of_laid hLaid)).mono fun e W' ⟨he, bel⟩ => ?_
  subst he
  exact ⟨_, rfl, _, _, _, [], _, [], hW', trodAll_mk1 (shut_bool Tryd.underlying4 _), (trodAll_cons_mk (Below.trod frame_laid (by kernel_rfl) (of_decide_eq_true (by kernel_rfl)) k0 bel lt0) (trodAll_cons_mk (Below.trod frame_laid (by kernel_rfl) (of_decide_eq_true (by kernel_rfl)) k1 bel lt1) (trodAll_cons_mk (Below.trod frame_laid (by kernel_rfl) (of_decide_eq_true (by kernel_rfl)) k2 bel lt2) trodAll_mk0))), rfl, bel.frame _, fun h => by cases h⟩

theorem HermiteSays_over : Rows.hermiteSaysRow.holds Tryd.pinned (OpenSpec.ofChange Rows.hermiteSaysSpec) :=
  OpenClaim.holds_of_wide 3 Tryd.f3 rfl rfl rfl rfl rfl rfl rfl ⟨rfl, rfl, rfl, rfl, rfl⟩ rfl rfl rfl rfl rfl (by kernel_rfl) Tryd.func3 (by kernel_rfl)
    (of_decide_eq_true (by kernel_rfl)) (by unfold Func.isWrapper; first | (rw [if_pos (by decide +kernel)]; kernel_rfl) | (rw [if_neg (by decide +kernel)]; exact ⟨rfl, rfl⟩))
    (fun os started H enc _ => frame_lifted os started H enc)

theorem frame_wants : ∀ t ∈ [22, 22, 23], Tryd.prog.wantsStandIn t = false := by
  intro t ht
  simp only [List.mem_cons, List.not_mem_nil, or_false] at ht
  rcases ht with rfl | rfl | rfl <;> kernel_rfl
/-- THE STATEMENT: THE TIED CARD -/
theorem HermiteSays_holds : Rows.HermiteSaysCardSaid :=
  Claim7.holds_tied_plain_at .later [] [.handle] true _ true
    HermiteSays_over (fun _ h => by cases h) (by kernel_rfl) (fun _ h => by cases h) hermiteSays_row_tie rfl ⟨rfl, rfl⟩ (by kernel_rfl) rfl
    (fun f fn hf hfn => by
      obtain rfl : f = 3 := Option.some.inj ((show Tryd.prog.funcNamed "rankmere/rankmerelaw4.HermiteSays" = some 3 by kernel_rfl).symm.trans hf) |>.symm
      obtain rfl : fn = Tryd.f3 := (Option.some.inj (Tryd.func3.symm.trans hfn)).symm
      exact ⟨by kernel_rfl, fun j t ht => by
        rw [Tryd.params3] at ht
        exact frame_wants t (by have := Array.mem_of_getElem? ht; simpa using this)⟩)
    (by kernel_rfl)
end Go.Proofs.YtijlhdgagaehaaaDoor.HermiteSaysP
