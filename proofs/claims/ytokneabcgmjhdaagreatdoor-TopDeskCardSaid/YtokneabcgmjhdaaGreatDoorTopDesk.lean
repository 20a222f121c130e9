/- It proves that rankmeretop.TopDesk, called with any text and any two integers, returns true, and leaves its arguments as they were. The one condition: the variables of the library that its row lists are as the program's text lays them; the card ties them. -/
import Derived.Test.YtokneabcgmjhdaaGreatDoorDeskRun
import Derived.Test.YtokneabcgmjhdaaGreatDoorDeskB
import Derived.Test.YtokneabcgmjhdaaGreatDoorDeskFact
import Derived.Test.YtokneabcgmjhdaaGreatDoorFrameS
import Derived.Test.YtokneabcgmjhdaaGreatDoorLawIn
import Derived.Test.YtokneabcgmjhdaaGreatDoorTie
import Derived.Test.YtokneabcgmjhdaaGreatDoorCards
import Derived.ProofKit
import Derived.OpenShut
import Derived.ShutString
import Derived.ChangeOld
import Derived.ChangeVars
import Derived.Lib.SmallJoins
import Derived.LaidLaws
import Derived.LaidMore
import Derived.Stop.Joined
import Derived.SevenTiedAt
import Derived.Lib.LaidU8
import Derived.MakeChecks
import Derived.LaidSub
namespace Go.Proofs.YtokneabcgmjhdaaGreatDoor.TopDeskP
open Go.ChangeShapes Go.WideShapes Go.ChangeAt Go.RowKit Go.Joins
open Go.ChangeMaps (open_string shut_string)
open Go.Proofs.YtokneabcgmjhdaaGreatDoor
set_option linter.unusedVariables false
set_option linter.unusedSimpArgs false

set_option maxRecDepth 100000 in
set_option maxHeartbeats 8000000 in
theorem TopDesk_any (t : ByteArray) (ht : t.size ≤ maxLen) (i : Int) (j : Int) (w : World) (hG : Glob w.heap.size w) (hg : Handle w) :
    Calls Tryz.prog 7 #[.string t, .int .i64 i, .int .i64 j] w fun e w' => e = .returned (.bool true) ∧ Below w.heap.size w w' := by
  have hD := Run_det hG hg w (Below.refl _ _)
  have HRL := Lib.hid (fun x l (h : x.data.toList = l) W hW => Run_list x l h hG hg W hW)
  obtain ⟨l, hl⟩ : ∃ l, l = t.data.toList := ⟨_, rfl⟩
  have hll : l.length = t.size := by rw [hl, size_list]
  have HL := Lib.hid hl
  have HLL := Lib.hid hll
  clear hG hg hl hll
  go_enter Tryz.func7, Tryz.ntmps7
  go_wp2_with fail
  go_at_call 8
  refine (hD).mono ?_
  rintro e w1 ⟨rfl, hb1⟩
  clear hD
  by_cases h3 : 2900 < t.size
  · have h3i : (2900 : Int) < t.size := by omega
    go_wp2_with fail
    go_ret
    exact ⟨rfl, hb1⟩
  have h3i : ¬ (2900 : Int) < t.size := by omega
  have hlast : (t.size = 0 ∧ l = []) ∨ ∃ m, ∃ h : m < t.size, t.size = m + 1 ∧ l.getLast? = some (t[m]'h) := by
    by_cases h0 : t.size = 0
    · exact Or.inl ⟨h0, List.eq_nil_of_length_eq_zero (by rw [HLL.out]; exact h0)⟩
    · refine Or.inr ⟨t.size - 1, by omega, by omega, ?_⟩
      have hm : t.size - 1 < t.size := by omega
      rw [byte_get t l HL.out hm, List.getLast?_eq_getElem?, HLL.out, List.getElem?_eq_getElem (by rw [HLL.out]; exact hm), List.getD_eq_getElem?_getD, List.getElem?_eq_getElem (by rw [HLL.out]; exact hm)]
      rfl
  rcases hlast with ⟨hz, hle⟩ | ⟨m, hm, hms, hle⟩
  · have hle : l = [] ∨ l.getLast? = some 10 := Or.inl hle
    by_cases hi : 0 ≤ i ∧ i ≤ 3
    · have qi := inB_yes hi.1 hi.2
      have Ii := Lib.hid (topin_any i 0 3)
      rw [qi] at Ii
      by_cases hj : 0 ≤ j ∧ j ≤ 3
      · have qj := inB_yes hj.1 hj.2
        have Ij := Lib.hid (topin_any j 0 3)
        rw [qj] at Ij
        go_wp2_with fail
        go_at_call 13
        refine (Ii.out _).mono ?_
        rintro e wzi ⟨rfl, rfl⟩
        go_wp2_with fail
        go_at_call 13
        refine (Ij.out _).mono ?_
        rintro e wzj ⟨rfl, rfl⟩
        obtain ⟨p, rfl⟩ : ∃ p : Nat, i = p := ⟨i.toNat, by omega⟩
        obtain ⟨q, rfl⟩ : ∃ q : Nat, j = q := ⟨j.toNat, by omega⟩
        have hp : p ≤ 3 := by omega
        have hq : q ≤ 3 := by omega
        obtain ⟨sa, sc, ka, kw, kb, kc, hfin⟩ := top_all (t := l) hle (by rw [HLL.out]; omega) hp hq
        have hdp := RDigits p (by omega)
        have hdq := RDigits q (by omega)
        obtain ⟨dp, hbp⟩ : ∃ z, z = ba (Lib.decDigits p) := ⟨_, rfl⟩
        have zp : dp.size ≤ 4 := by rw [hbp, ba_size]; exact nDig_le (by omega)
        rw [← hbp] at hdp
        have HDP := Lib.hid hdp
        have hbp' : dp.data.toList = Lib.decDigits p := by rw [hbp, ba_toList]
        obtain ⟨dq, hbq⟩ : ∃ z, z = ba (Lib.decDigits q) := ⟨_, rfl⟩
        have zq : dq.size ≤ 4 := by rw [hbq, ba_size]; exact nDig_le (by omega)
        rw [← hbq] at hdq
        have HDQ := Lib.hid hdq
        have hbq' : dq.data.toList = Lib.decDigits q := by rw [hbq, ba_toList]
        have hGt : (((((⟨#[103, 101, 116, 32]⟩ : ByteArray) ++ dp) ++ ⟨#[32]⟩) ++ dq) ++ ⟨#[10]⟩).data.toList = getT p q ++ [10] := by
          simp only [app_list, hbp', hbq']
          unfold getT kGet
          simp
        have hcz : (⟨#[99, 114, 97, 115, 104, 32, 57, 57, 57, 57, 57, 57, 57, 10]⟩ : ByteArray).data.toList = crashT ++ [10] := rfl
        have hdz : (⟨#[100, 101, 116, 10]⟩ : ByteArray).data.toList = kDet ++ [10] := rfl
        have hcd : (⟨#[99, 114, 97, 115, 104, 32, 57, 57, 57, 57, 57, 57, 57, 10, 100, 101, 116, 10]⟩ : ByteArray).data.toList = (crashT ++ [10]) ++ (kDet ++ [10]) := rfl
        have HGG := Lib.hid hGt
        have HCZ := Lib.hid hcz
        have HDZ := Lib.hid hdz
        have HCD := Lib.hid hcd
        have HFIN := Lib.hid hfin
        have HKA := Lib.hid ka
        have HKW := Lib.hid kw
        have HKB := Lib.hid kb
        have HKC := Lib.hid kc
        clear hdp hdq hbp hbq hbp' hbq' hGt hcz hdz hcd hfin ka kw kb kc hi hj hle
        go_wp2_with fail
        go_at_call 11
        refine (HDP.out _).mono ?_
        rintro e w5 ⟨rfl, hb5⟩
        go_wp2_with fail
        go_at_call 11
        refine (HDQ.out _).mono ?_
        rintro e w6 ⟨rfl, hb6⟩
        have c6 := below_trans hb1 (below_trans hb5 hb6)
        clear hb1 hb5 hb6
        go_upto_region 7 with (fail)
        obtain ⟨GE, hGE⟩ : ∃ GE, GE = (((((⟨#[103, 101, 116, 32]⟩ : ByteArray) ++ dp) ++ ⟨#[32]⟩) ++ dq) ++ ⟨#[10]⟩) := ⟨_, rfl⟩
        have sGE : GE.size ≤ 20 := by rw [hGE]; simp only [ByteArray.size_append]; show 4 + _ + 1 + _ + 1 ≤ 20; omega
        rw [← hGE]
        have lGE : GE.data.toList = getT p q ++ [10] := by rw [hGE]; exact HGG.out
        have hts : t.size ≤ 2900 := by omega
        have rA := HRL.out (t ++ GE) _ (by rw [app_list, ← HL.out, lGE])
        have rW := HRL.out ((t ++ ⟨#[99, 114, 97, 115, 104, 32, 57, 57, 57, 57, 57, 57, 57, 10]⟩) ++ GE) _ (by rw [app_list, app_list, ← HL.out, lGE, HCZ.out])
        have rB := HRL.out (t ++ ⟨#[100, 101, 116, 10]⟩) _ (by rw [app_list, ← HL.out, HDZ.out])
        have rC := HRL.out (t ++ ⟨#[99, 114, 97, 115, 104, 32, 57, 57, 57, 57, 57, 57, 57, 10, 100, 101, 116, 10]⟩) ((l ++ (crashT ++ [10])) ++ (kDet ++ [10])) (by rw [app_list, ← HL.out, List.append_assoc l]; exact congrArg (fun z => l ++ z) HCD.out)
        have lA := TLast_list (l ++ (getT p q ++ [10]))
        have lW := TLast_list ((l ++ (crashT ++ [10])) ++ (getT p q ++ [10]))
        have lB := TLast_list (l ++ (kDet ++ [10]))
        have lC := TLast_list ((l ++ (crashT ++ [10])) ++ (kDet ++ [10]))
        rw [HKA.out] at lA
        rw [HKW.out] at lW
        rw [HKB.out] at lB
        rw [HKC.out] at lC
        generalize sessE (l ++ (getT p q ++ [10])) = xA at *
        generalize sessE ((l ++ (crashT ++ [10])) ++ (getT p q ++ [10])) = xW at *
        generalize sessE (l ++ (kDet ++ [10])) = xB at *
        generalize sessE ((l ++ (crashT ++ [10])) ++ (kDet ++ [10])) = xC at *
        have hsa : (1 : Int) < (ba sa).size := by have := HFIN.out; rw [ba_size]; omega
        generalize ba sa = SA at *
        generalize ba sc = SC at *
        have RA := Lib.hid rA
        have RW := Lib.hid rW
        have RB := Lib.hid rB
        have RC := Lib.hid rC
        have LA := Lib.hid lA
        have LW := Lib.hid lW
        have LB := Lib.hid lB
        have LC := Lib.hid lC
        clear rA rW rB rC lA lW lB lC hGE lGE HGG HCZ HDZ HCD HKA HKW HKB HKC HFIN
        go_wp2_with fail
        go_at_call 8
        refine (RA.out _ c6).mono ?_
        rintro e w7 ⟨rfl, hb7⟩
        have c7 := below_trans c6 hb7
        go_wp2_with fail
        go_at_call 14
        refine (LA.out _).mono ?_
        rintro e w7' ⟨rfl, rfl⟩
        go_wp2_with fail
        go_at_call 8
        refine (RW.out _ c7).mono ?_
        rintro e w8 ⟨rfl, hb8⟩
        have c8 := below_trans c7 hb8
        go_wp2_with fail
        go_at_call 14
        refine (LW.out _).mono ?_
        rintro e w8' ⟨rfl, rfl⟩
        go_wp2_with fail
        go_at_call 8
        refine (RB.out _ c8).mono ?_
        rintro e w9 ⟨rfl, hb9⟩
        have c9 := below_trans c8 hb9
        go_wp2_with fail
        go_at_call 14
        refine (LB.out _).mono ?_
        rintro e w9' ⟨rfl, rfl⟩
        go_wp2_with fail
        go_at_call 8
        refine (RC.out _ c9).mono ?_
        rintro e w10 ⟨rfl, hb10⟩
        have c10 := below_trans c9 hb10
        go_wp2_with fail
        go_at_call 14
        refine (LC.out _).mono ?_
        rintro e w10' ⟨rfl, rfl⟩
        clear c6 c7 c8 c9 hb7 hb8 hb9 hb10
        go_wp2_with fail
        go_ret
        exact ⟨rfl, c10⟩
      · have qj := inB_no (n := j) (lo := 0) (hi := 3) (by omega)
        have Ij := Lib.hid (topin_any j 0 3)
        rw [qj] at Ij
        go_wp2_with fail
        go_at_call 13
        refine (Ii.out _).mono ?_
        rintro e wzi ⟨rfl, rfl⟩
        go_wp2_with fail
        go_at_call 13
        refine (Ij.out _).mono ?_
        rintro e wz ⟨rfl, rfl⟩
        go_wp2_with fail
        go_ret
        exact ⟨rfl, hb1⟩
    · have qi := inB_no (n := i) (lo := 0) (hi := 3) (by omega)
      have Ii := Lib.hid (topin_any i 0 3)
      rw [qi] at Ii
      go_wp2_with fail
      go_at_call 13
      refine (Ii.out _).mono ?_
      rintro e wz ⟨rfl, rfl⟩
      go_wp2_with fail
      go_ret
      exact ⟨rfl, hb1⟩
  · have hm0 : (0 : Int) ≤ m := by omega
    have bb := @byte_beq (t[m]'hm) 10
    rw [show ((10 : UInt8).toNat : Int) = 10 from rfl] at bb
    rcases bb with ⟨b1, b2, b3⟩ | ⟨b1, b2, b3⟩
    · rw [b3] at hle
      have hle : l = [] ∨ l.getLast? = some 10 := Or.inr hle
      have hmt : (0 : Int) < t.size := by omega
      clear b3
      by_cases hi : 0 ≤ i ∧ i ≤ 3
      · have qi := inB_yes hi.1 hi.2
        have Ii := Lib.hid (topin_any i 0 3)
        rw [qi] at Ii
        by_cases hj : 0 ≤ j ∧ j ≤ 3
        · have qj := inB_yes hj.1 hj.2
          have Ij := Lib.hid (topin_any j 0 3)
          rw [qj] at Ij
          go_wp2_with fail
          go_at_call 13
          refine (Ii.out _).mono ?_
          rintro e wzi ⟨rfl, rfl⟩
          go_wp2_with fail
          go_at_call 13
          refine (Ij.out _).mono ?_
          rintro e wzj ⟨rfl, rfl⟩
          obtain ⟨p, rfl⟩ : ∃ p : Nat, i = p := ⟨i.toNat, by omega⟩
          obtain ⟨q, rfl⟩ : ∃ q : Nat, j = q := ⟨j.toNat, by omega⟩
          have hp : p ≤ 3 := by omega
          have hq : q ≤ 3 := by omega
          obtain ⟨sa, sc, ka, kw, kb, kc, hfin⟩ := top_all (t := l) hle (by rw [HLL.out]; omega) hp hq
          have hdp := RDigits p (by omega)
          have hdq := RDigits q (by omega)
          obtain ⟨dp, hbp⟩ : ∃ z, z = ba (Lib.decDigits p) := ⟨_, rfl⟩
          have zp : dp.size ≤ 4 := by rw [hbp, ba_size]; exact nDig_le (by omega)
          rw [← hbp] at hdp
          have HDP := Lib.hid hdp
          have hbp' : dp.data.toList = Lib.decDigits p := by rw [hbp, ba_toList]
          obtain ⟨dq, hbq⟩ : ∃ z, z = ba (Lib.decDigits q) := ⟨_, rfl⟩
          have zq : dq.size ≤ 4 := by rw [hbq, ba_size]; exact nDig_le (by omega)
          rw [← hbq] at hdq
          have HDQ := Lib.hid hdq
          have hbq' : dq.data.toList = Lib.decDigits q := by rw [hbq, ba_toList]
          have hGt : (((((⟨#[103, 101, 116, 32]⟩ : ByteArray) ++ dp) ++ ⟨#[32]⟩) ++ dq) ++ ⟨#[10]⟩).data.toList = getT p q ++ [10] := by
            simp only [app_list, hbp', hbq']
            unfold getT kGet
            simp
          have hcz : (⟨#[99, 114, 97, 115, 104, 32, 57, 57, 57, 57, 57, 57, 57, 10]⟩ : ByteArray).data.toList = crashT ++ [10] := rfl
          have hdz : (⟨#[100, 101, 116, 10]⟩ : ByteArray).data.toList = kDet ++ [10] := rfl
          have hcd : (⟨#[99, 114, 97, 115, 104, 32, 57, 57, 57, 57, 57, 57, 57, 10, 100, 101, 116, 10]⟩ : ByteArray).data.toList = (crashT ++ [10]) ++ (kDet ++ [10]) := rfl
          have HGG := Lib.hid hGt
          have HCZ := Lib.hid hcz
          have HDZ := Lib.hid hdz
          have HCD := Lib.hid hcd
          have HFIN := Lib.hid hfin
          have HKA := Lib.hid ka
          have HKW := Lib.hid kw
          have HKB := Lib.hid kb
          have HKC := Lib.hid kc
          clear hdp hdq hbp hbq hbp' hbq' hGt hcz hdz hcd hfin ka kw kb kc hi hj hle
          go_wp2_with fail
          go_at_call 11
          refine (HDP.out _).mono ?_
          rintro e w5 ⟨rfl, hb5⟩
          go_wp2_with fail
          go_at_call 11
          refine (HDQ.out _).mono ?_
          rintro e w6 ⟨rfl, hb6⟩
          have c6 := below_trans hb1 (below_trans hb5 hb6)
          clear hb1 hb5 hb6
          go_upto_region 7 with (fail)
          obtain ⟨GE, hGE⟩ : ∃ GE, GE = (((((⟨#[103, 101, 116, 32]⟩ : ByteArray) ++ dp) ++ ⟨#[32]⟩) ++ dq) ++ ⟨#[10]⟩) := ⟨_, rfl⟩
          have sGE : GE.size ≤ 20 := by rw [hGE]; simp only [ByteArray.size_append]; show 4 + _ + 1 + _ + 1 ≤ 20; omega
          rw [← hGE]
          have lGE : GE.data.toList = getT p q ++ [10] := by rw [hGE]; exact HGG.out
          have hts : t.size ≤ 2900 := by omega
          have rA := HRL.out (t ++ GE) _ (by rw [app_list, ← HL.out, lGE])
          have rW := HRL.out ((t ++ ⟨#[99, 114, 97, 115, 104, 32, 57, 57, 57, 57, 57, 57, 57, 10]⟩) ++ GE) _ (by rw [app_list, app_list, ← HL.out, lGE, HCZ.out])
          have rB := HRL.out (t ++ ⟨#[100, 101, 116, 10]⟩) _ (by rw [app_list, ← HL.out, HDZ.out])
          have rC := HRL.out (t ++ ⟨#[99, 114, 97, 115, 104, 32, 57, 57, 57, 57, 57, 57, 57, 10, 100, 101, 116, 10]⟩) ((l ++ (crashT ++ [10])) ++ (kDet ++ [10])) (by rw [app_list, ← HL.out, List.append_assoc l]; exact congrArg (fun z => l ++ z) HCD.out)
          have lA := TLast_list (l ++ (getT p q ++ [10]))
          have lW := TLast_list ((l ++ (crashT ++ [10])) ++ (getT p q ++ [10]))
          have lB := TLast_list (l ++ (kDet ++ [10]))
          have lC := TLast_list ((l ++ (crashT ++ [10])) ++ (kDet ++ [10]))
          rw [HKA.out] at lA
          rw [HKW.out] at lW
          rw [HKB.out] at lB
          rw [HKC.out] at lC
          generalize sessE (l ++ (getT p q ++ [10])) = xA at *
          generalize sessE ((l ++ (crashT ++ [10])) ++ (getT p q ++ [10])) = xW at *
          generalize sessE (l ++ (kDet ++ [10])) = xB at *
          generalize sessE ((l ++ (crashT ++ [10])) ++ (kDet ++ [10])) = xC at *
          have hsa : (1 : Int) < (ba sa).size := by have := HFIN.out; rw [ba_size]; omega
          generalize ba sa = SA at *
          generalize ba sc = SC at *
          have RA := Lib.hid rA
          have RW := Lib.hid rW
          have RB := Lib.hid rB
          have RC := Lib.hid rC
          have LA := Lib.hid lA
          have LW := Lib.hid lW
          have LB := Lib.hid lB
          have LC := Lib.hid lC
          clear rA rW rB rC lA lW lB lC hGE lGE HGG HCZ HDZ HCD HKA HKW HKB HKC HFIN
          go_wp2_with fail
          go_at_call 8
          refine (RA.out _ c6).mono ?_
          rintro e w7 ⟨rfl, hb7⟩
          have c7 := below_trans c6 hb7
          go_wp2_with fail
          go_at_call 14
          refine (LA.out _).mono ?_
          rintro e w7' ⟨rfl, rfl⟩
          go_wp2_with fail
          go_at_call 8
          refine (RW.out _ c7).mono ?_
          rintro e w8 ⟨rfl, hb8⟩
          have c8 := below_trans c7 hb8
          go_wp2_with fail
          go_at_call 14
          refine (LW.out _).mono ?_
          rintro e w8' ⟨rfl, rfl⟩
          go_wp2_with fail
          go_at_call 8
          refine (RB.out _ c8).mono ?_
          rintro e w9 ⟨rfl, hb9⟩
          have c9 := below_trans c8 hb9
          go_wp2_with fail
          go_at_call 14
          refine (LB.out _).mono ?_
          rintro e w9' ⟨rfl, rfl⟩
          go_wp2_with fail
          go_at_call 8
          refine (RC.out _ c9).mono ?_
          rintro e w10 ⟨rfl, hb10⟩
          have c10 := below_trans c9 hb10
          go_wp2_with fail
          go_at_call 14
          refine (LC.out _).mono ?_
          rintro e w10' ⟨rfl, rfl⟩
          clear c6 c7 c8 c9 hb7 hb8 hb9 hb10
          go_wp2_with fail
          go_ret
          exact ⟨rfl, c10⟩
        · have qj := inB_no (n := j) (lo := 0) (hi := 3) (by omega)
          have Ij := Lib.hid (topin_any j 0 3)
          rw [qj] at Ij
          go_wp2_with fail
          go_at_call 13
          refine (Ii.out _).mono ?_
          rintro e wzi ⟨rfl, rfl⟩
          go_wp2_with fail
          go_at_call 13
          refine (Ij.out _).mono ?_
          rintro e wz ⟨rfl, rfl⟩
          go_wp2_with fail
          go_ret
          exact ⟨rfl, hb1⟩
      · have qi := inB_no (n := i) (lo := 0) (hi := 3) (by omega)
        have Ii := Lib.hid (topin_any i 0 3)
        rw [qi] at Ii
        go_wp2_with fail
        go_at_call 13
        refine (Ii.out _).mono ?_
        rintro e wz ⟨rfl, rfl⟩
        go_wp2_with fail
        go_ret
        exact ⟨rfl, hb1⟩
    · clear b3 hle
      have hmt : (0 : Int) < t.size := by omega
      go_wp2_with fail
      go_ret
      exact ⟨rfl, hb1⟩
theorem frame_own : ownKnob Tryz.prog.godebug = none := by kernel_rfl
theorem frame_laid : laidOutB Tryz.prog = true := by kernel_rfl
theorem frame_pg : Tryz.prog.globalNamed "internal/strconv.uint64pow10" = some 6 := by kernel_rfl
theorem frame_pt : (Tryz.prog.globals[6]?).map (·.type) = some 175 := by kernel_rfl
theorem frame_pd {H : Type} : (Rows.laid_internal_strconv_uint64pow10 : DataW H) = Lib.tabData .u64 Lib.pow10Tab := by rfl
theorem tab_of_laid {W : World} (h : laidMetH Tryz.prog Rows.topDeskRow.laid W) : Tab W.heap.size W := by
  have h' : laidMet Tryz.prog (Rows.topDeskRow.laid.filter fun x => x.2.handleName?.isNone) W := (laidMetH_iff.1 h).1
  have hr : Lib.VarReads Tryz.prog W "internal/strconv.uint64pow10" Rows.laid_internal_strconv_uint64pow10 := Lib.laidMet.reads h' (List.mem_filter.2 ⟨by simp [Rows.topDeskRow], by kernel_rfl⟩)
  rw [frame_pd] at hr
  exact Lib.tabBelow_of_tabIs (tabIs_of_reads frame_pg frame_pt Tryz.underlying175 Tryz.underlying157 (by kernel_rfl) (by kernel_rfl) hr)
theorem glob_of_laid {W : World} (h : laidMetH Tryz.prog Rows.topDeskRow.laid W) (hS : W.ShapedOpen Tryz.prog) : Glob W.heap.size W := by
  have h' : laidMet Tryz.prog (Rows.topDeskRow.laid.filter fun x => x.2.handleName?.isNone) W := (laidMetH_iff.1 h).1
  have hr : Lib.VarReads Tryz.prog W "strconv.ErrRange" Rows.laid_strconv_ErrRange := Lib.laidMet.reads h' (List.mem_filter.2 ⟨by simp [Rows.topDeskRow], by kernel_rfl⟩)
  exact glob_of (tab_of_laid h) (iface_of_reads (g := 5) (by kernel_rfl) (by kernel_rfl) Tryz.underlying42 hr) hS
theorem frame_et : Tryz.prog.globalNamed "errors.errorType" = some 0 := by kernel_rfl
theorem frame_rt : (Tryz.prog.cutTypes.find? (·.1 == "internal/reflectlite.rtype")).map (·.2) = some 133 := by kernel_rfl
theorem frame_oneRow : ((List.range 209).filter fun t => Tryz.prog.rowNamed t [101, 114, 114, 111, 114]) = [42] := by kernel_rfl
theorem frame_size : Tryz.prog.types.size = 209 := by kernel_rfl
theorem handle_of_laid {W : World} (h : laidMetH Tryz.prog Rows.topDeskRow.laid W) : Handle W := by
  have h2 : ∃ name u ty, (Rows.laid_errors_errorType : DataW Unit).handleName? = some name ∧ (Tryz.prog.cutTypes.find? (·.1 == "internal/reflectlite.rtype")).map (·.2) = some u ∧ ty < Tryz.prog.types.size ∧ Tryz.prog.rowNamed ty name = true ∧ W.var? Tryz.prog "errors.errorType" = some #[.iface u (.agg #[typeHandle Tryz.prog ty])] := (laidMetH_iff.1 h).2 ("errors.errorType", Rows.laid_errors_errorType) (List.mem_filter.2 ⟨by simp [Rows.topDeskRow], by kernel_rfl⟩)
  obtain ⟨name, u, ty, e1, e2, e3, e4, e5⟩ := h2
  have en : name = [101, 114, 114, 111, 114] := (Option.some.inj e1).symm
  subst en
  obtain rfl := Option.some.inj (frame_rt.symm.trans e2)
  have hm : ty ∈ (List.range 209).filter fun t => Tryz.prog.rowNamed t [101, 114, 114, 111, 114] := List.mem_filter.2 ⟨List.mem_range.2 (by rw [← frame_size]; exact e3), e4⟩
  rw [frame_oneRow] at hm
  obtain rfl := List.mem_singleton.1 hm
  have hh : typeHandle Tryz.prog 42 = .pointer (some ⟨9, 42, none⟩) := by kernel_rfl
  rw [hh] at e5
  unfold Handle
  simpa using World.var?_cell frame_et e5 0
noncomputable def laidWorld (os : Os) : World := (World.doorLaid Tryz.prog 400 os).layVars Tryz.prog (Rows.topDeskRow.laid.filter fun x => x.2.handleName?.isNone)
theorem laidWorld_os (os : Os) : (laidWorld os).os = os := World.layVars_os _ _ _
theorem laidWorld_met (os : Os) (args : Array Value) : laidMetH Tryz.prog Rows.topDeskRow.laid ((laidWorld os).forCall (fun _ _ => 0) ⟨#[], args, []⟩).memory :=
  laidMetH_of_parts (laidMet.of_heap (by simp [laidWorld, World.memory, World.forCall, Input.heap]) (laidMet_over (w0 := (World.doorLaid Tryz.prog 400 os)) (by kernel_rfl) (by kernel_rfl))) (by kernel_rfl)
set_option maxRecDepth 100000 in
theorem frame_lifted (os : Os) (started : os.Started) (H : Type) (enc : TypeId × Value → H) :
    ReturnsInHanded {} Tryz.checked os 7 .any (fun w args => (Rows.topDeskSpec.pre enc Tryz.prog Tryz.f7 Rows.topDeskRow.domain false w args ∧ laidMetH Tryz.prog Rows.topDeskRow.laid w) ∧ sizedMet enc Tryz.prog Tryz.f7 (OpenSpec.ofChange Rows.topDeskSpec) false w args) (Rows.topDeskSpec.post enc Tryz.prog Tryz.f7 false true false false) := by
  refine returns_and_shaped (C := Tryz.checked) (X := (fun w _ => laidMetH Tryz.prog Rows.topDeskRow.laid w)) (fun _ _ _ hh h => h.of_heap hh) frame_own started (by kernel_rfl) Tryz.func7
    (ChangeSpec.witness_shaped (enc := enc) (C := Tryz.checked) (os := os) (X := (fun w _ => laidMetH Tryz.prog Rows.topDeskRow.laid w)) false (laidWorld os) #[.string ⟨#[]⟩, .int .i64 0, .int .i64 0] 8 (laidWorld_os os) (World.shaped_of_ZipB (by kernel_rfl) (by kernel_rfl)) (by kernel_rfl) (by kernel_rfl) (by kernel_rfl) (laidWorld_met os _)) ?_
  intro W base args ds gs before hval0 hW hcnd _ hLaid hSh _
  have hval : ∀ (j : Nat) t v, Tryz.f7.params[j]? = some t → args[j]? = some v → Value.okWide Tryz.prog W .any base t v := hval0
  have hW' := hW
  obtain ⟨p, q, hA0, hV, rfl, hfz, hnd⟩ := hW
  have hA : DataW.TrodAll enc Tryz.prog W 0 (fun _ => true) true Tryz.f7.params.toList args.toList ds p := hA0
  rw [Tryz.params7] at hA hval
  obtain ⟨v0, vs0, d0, ds0, p0, q0, hargs, rfl, rfl, h0, r0⟩ := trodAll_cons hA
  obtain ⟨v1, vs1, d1, ds1, p1, q1, rfl, rfl, rfl, h1, r1⟩ := trodAll_cons r0
  obtain ⟨v2, vs2, d2, ds2, p2, q2, rfl, rfl, rfl, h2, r2⟩ := trodAll_cons r1
  obtain ⟨rfl, rfl, rfl⟩ := trodAll_nil r2
  obtain rfl : args = #[v0, v1, v2] := by cases args; simp_all
  obtain ⟨rfl, rfl⟩ := trodVars_none hV
  have k0 := h0
  have lt0 : ∀ x ∈ p0, x.block < W.heap.size := by obtain ⟨m, hm⟩ := k0; exact DataW.trod_lt m _ _ _ hm
  obtain ⟨a0, rfl, rfl, rfl, w0⟩ := open_string Tryz.underlying9 (hval 0 9 v0 rfl rfl) h0
  have k1 := h1
  have lt1 : ∀ x ∈ p1, x.block < W.heap.size := by obtain ⟨m, hm⟩ := k1; exact DataW.trod_lt m _ _ _ hm
  obtain ⟨a1, rfl, rfl, rfl, w1⟩ := open_int Tryz.underlying3 (hval 1 3 v1 rfl rfl) h1
  have k2 := h2
  have lt2 : ∀ x ∈ p2, x.block < W.heap.size := by obtain ⟨m, hm⟩ := k2; exact DataW.trod_lt m _ _ _ hm
  obtain ⟨a2, rfl, rfl, rfl, w2⟩ := open_int Tryz.underlying3 (hval 2 3 v2 rfl rfl) h2
  clear hA0 hval0
  refine (TopDesk_any a0 w0 a1 a2 W (glob_of_laid hLaid hSh) (handle_of_laid hLaid)).mono fun e W' ⟨he, bel⟩ => ?_
  subst he
  exact ⟨_, rfl, _, _, _, [], _, [], hW', trodAll_mk1 (shut_bool Tryz.underlying4 _), (trodAll_cons_mk (Below.trod frame_laid (by kernel_rfl) (of_decide_eq_true (by kernel_rfl)) k0 bel lt0) (trodAll_cons_mk (Below.trod frame_laid (by kernel_rfl) (of_decide_eq_true (by kernel_rfl)) k1 bel lt1) (trodAll_cons_mk (Below.trod frame_laid (by kernel_rfl) (of_decide_eq_true (by kernel_rfl)) k2 bel lt2) trodAll_mk0))), rfl, bel.frame _, fun h => by cases h⟩

theorem TopDesk_over : Rows.topDeskRow.holds Tryz.pinned (OpenSpec.ofChange Rows.topDeskSpec) :=
  OpenClaim.holds_of_wide 7 Tryz.f7 rfl rfl rfl rfl rfl rfl rfl ⟨rfl, rfl, rfl, rfl, rfl⟩ rfl rfl rfl rfl rfl (by kernel_rfl) Tryz.func7 (by kernel_rfl)
    (of_decide_eq_true (by kernel_rfl)) (by unfold Func.isWrapper; first | (rw [if_pos (by decide +kernel)]; kernel_rfl) | (rw [if_neg (by decide +kernel)]; exact ⟨rfl, rfl⟩))
    (fun os started H enc _ => frame_lifted os started H enc)

theorem frame_wants : ∀ t ∈ [9, 3, 3], Tryz.prog.wantsStandIn t = false := by
  intro t ht
  simp only [List.mem_cons, List.not_mem_nil, or_false] at ht
  rcases ht with rfl | rfl | rfl <;> kernel_rfl
/-- THE STATEMENT: THE TIED CARD -/
theorem TopDesk_holds : Rows.TopDeskCardSaid :=
  Claim7.holds_tied_plain_at .later [] [.data, .data, .data, .data, .handle, .sentinel, .sentinel, .pinned] true _ true
    TopDesk_over (fun _ h => by cases h) (by kernel_rfl) (fun _ h => by cases h) topDesk_row_tie rfl ⟨rfl, rfl⟩ (by kernel_rfl) rfl
    (fun f fn hf hfn => by
      obtain rfl : f = 7 := Option.some.inj ((show Tryz.prog.funcNamed "rankmere/rankmeretop.TopDesk" = some 7 by kernel_rfl).symm.trans hf) |>.symm
      obtain rfl : fn = Tryz.f7 := (Option.some.inj (Tryz.func7.symm.trans hfn)).symm
      exact ⟨by kernel_rfl, fun j t ht => by
        rw [Tryz.params7] at ht
        exact frame_wants t (by have := Array.mem_of_getElem? ht; simpa using this)⟩)
    (by kernel_rfl)
end Go.Proofs.YtokneabcgmjhdaaGreatDoor.TopDeskP
