/- It proves that rankmeretop.TopBook, called with any list of lists of integers, returns true, and leaves its argument as it was. The one condition: the variables of the library that its row lists are as the program's text lays them; the card ties them. -/
import Derived.Test.YtkpoemfdepjkaaaGreatDoorBookApart
import Derived.Test.YtkpoemfdepjkaaaGreatDoorFrameS
import Derived.Test.YtkpoemfdepjkaaaGreatDoorESame
import Derived.Test.YtkpoemfdepjkaaaGreatDoorDetMod
import Derived.Test.YtkpoemfdepjkaaaGreatDoorBase
import Derived.Test.YtkpoemfdepjkaaaGreatDoorOpen
import Derived.Test.YtkpoemfdepjkaaaGreatDoorTie
import Derived.Test.YtkpoemfdepjkaaaGreatDoorCards
import Derived.ProofKit
import Derived.OpenShut
import Derived.ShutString
import Derived.ChangeOld
import Derived.ChangeVars
import Derived.Lib.SmallJoins
import Derived.LaidLaws
import Derived.LaidMore
import Derived.Stop.Joined
import Derived.SevenTiedAt
import Derived.Lib.LaidU8
import Derived.MakeChecks
import Derived.LaidSub
namespace Go.Proofs.YtkpoemfdepjkaaaGreatDoor.TopBookP
open Go.ChangeShapes Go.WideShapes Go.ChangeAt Go.RowKit Go.Joins
open Go.ChangeMaps (open_string shut_string)
open Go.Proofs.YtkpoemfdepjkaaaGreatDoor
set_option linter.unusedVariables false
set_option linter.unusedSimpArgs false

theorem ent_of {rows : List (List Int)} (hsq : Sq 4 rows) (h : ∀ i j, i < 4 → j < 4 → 0 ≤ fn rows i j ∧ fn rows i j < 9973) : Ent 9972 rows := by
  intro i j
  by_cases hi : i < 4
  · by_cases hj : j < 4
    · have := h i j hi hj
      unfold fn at this
      omega
    · have hl := hsq.2 i hi
      have e : (rows.getD i []).getD j 0 = 0 := by
        rw [List.getD_eq_getElem?_getD, List.getElem?_eq_none (by omega)]
        rfl
      rw [e]
      omega
  · have e : rows.getD i [] = [] := by
      rw [List.getD_eq_getElem?_getD, List.getElem?_eq_none (by rw [hsq.1]; omega)]
      rfl
    rw [e]
    simp
theorem glob_call' {w wr W : World} (h : Glob w.heap.size wr) (hb : Below w.heap.size w wr) (h2 : Below wr.heap.size wr W) : Glob W.heap.size W :=
  (h.call (h2.mono hb.size)).mono (Nat.le_trans hb.size h2.size)
set_option maxRecDepth 100000 in
set_option maxHeartbeats 4000000 in
theorem TopBook_any (a : Option Addr) (n cap : Nat) (steps : List (List Int)) {w' : World} (hr : RowsAt w' a n steps) (hcap : n ≤ cap) (hs : Small n steps) (w : World) (e : w' = w) (hG : Glob w.heap.size w) :
    Calls Tryz.prog 6 #[.slice a n cap] w fun e w' => e = .returned (.bool true) ∧ Below w.heap.size w w' := by
  subst e
  have HR0 := Lib.hid hr
  have HG := Lib.hid hG
  have hn := hs.1
  have HS := Lib.hid hs.2
  have HZ := Lib.hid (zeros_ok.set 0 0 5)
  have HS0 := Lib.hid (show errV (setErr 0 0 5 ([] : List ByteArray).length) = .nilIface from by rw [show setErr 0 0 5 ([] : List ByteArray).length = 0 by decide]; rfl)
  obtain ⟨T, hT⟩ : ∃ T, T = textOf (bSet (zeros4, []) 0 0 5).2 := ⟨_, rfl⟩
  have hT0 : T.data.toList ≠ [] := by
    rw [hT, show (bSet (zeros4, []) 0 0 5).2 = [] ++ [lineOf wordS [0, 0, 5]] from by rw [show bSet (zeros4, []) 0 0 5 = (putE zeros4 0 0 5, [lineOf wordS [0, 0, 5]]) from if_pos (by decide)]; rfl, textOf_snoc]
    simp
  have hTe : T.toList.isEmpty = false := by
    rw [Lib.toList_data]
    cases h : T.data.toList with
    | nil => exact absurd h hT0
    | cons a b => rfl
  clear hT0
  have HTT := Lib.hid hT
  clear hr hs hG hT
  go_enter Tryz.func6, Tryz.ntmps6
  go_wp2_with fail
  go_at_call 17
  refine (New_any _).mono ?_
  rintro e w1 ⟨Bk, G, vs, rfl, hbk, hB, hb1⟩
  have HB := Lib.hid hB
  have hSet := Lib.hid (Set_any w1 w'.heap.size Bk G vs (.slice none 0 0) (zeros4, []) hB hb1.size (HG.out.call hb1).1 0 0 5)
  rw [HS0.out] at hSet
  clear hB
  go_wp2_with fail
  go_at_call 13
  refine (hSet.out).mono ?_
  rintro e w2 ⟨rfl, ⟨vl, hB2, _⟩, hK2⟩
  have hb2 : Below w'.heap.size w' w2 := hb1.trans (hK2.below HB.out)
  have hTx := Text_any w2 w'.heap.size Bk G vs vl _ _ hB2 (Nat.le_trans HZ.out.len (by omega)) HZ.out.line
  rw [← HTT.out] at hTx
  clear hB2 hK2 hSet HB
  go_wp2_with fail
  go_at_call 10
  refine (hTx).mono ?_
  rintro e W0 ⟨rfl, hb3⟩
  have hw0 := below_trans hb2 hb3
  have HW0 := Lib.hid hw0
  have HR := Lib.hid (HR0.out.call hw0)
  have HT := Lib.hid ((HG.out.call hw0).mono hw0.size).1
  clear hTx hb2 hb3 hbk hw0 hb1
  go_upto_region 4 with (fail)
  go_wp2_with fail
  go_at_call 17
  refine (New_any _).mono ?_
  rintro e w1 ⟨Bk, G, vs, rfl, hbk, hB, hb1⟩
  have HB := Lib.hid hB
  clear hB
  go_wp2_with fail
  go_loopg [4] 62 (fun g i wr => ∃ k : Nat, k ≤ n ∧ k ≤ 60 ∧ 61 - k < g ∧ i = .int .i64 k ∧ (∃ vl, BookAt wr W0.heap.size Bk G vs vl (bRun steps k).1 (bRun steps k).2) ∧ Below W0.heap.size W0 wr)
  case atStart => exact ⟨0, by omega, by omega, by omega, rfl, ⟨_, HB.out⟩, hb1⟩
  case round =>
    clear HB hb1
    obtain ⟨k, hk, hk6, hg, rfl, ⟨vl, hBr⟩, hbel⟩ := hrel
    have HBR := Lib.hid hBr
    clear hBr
    by_cases hlt : k < n
    · have hki : (k : Int) < (n : Int) := by omega
      by_cases hlt7 : k < 60
      · have hk6i : (k : Int) < 60 := by omega
        have hk0 : (0 : Int) ≤ k := by omega
        obtain ⟨b, off, ra, rc, rfl, c1, e1, e2, e3, e4⟩ := (HR.out.call hbel).2 k hlt
        obtain ⟨l, hl⟩ : ∃ l, l = steps.getD k [] := ⟨_, rfl⟩
        rw [← hl] at c1 e1 e4
        have hll := HS.out k hlt
        rw [← hl] at hll
        have HST := Lib.hid (show bRun steps (k + 1) = bStep (bRun steps k) l from by rw [bRun, ← hl])
        have z1 := World.block_lt_of_cell? _ _ c1
        dsimp only at z1
        clear hl
        by_cases h4 : l.length = 4
        · have h4i : ((l.length : Int) != 4) = false := by simp [h4]
          rw [h4] at c1 e4
          obtain ⟨b2, o2, rfl, x0⟩ := e4.2 0 (by omega)
          obtain ⟨b2', o2', q1, x1⟩ := e4.2 1 (by omega)
          cases q1
          obtain ⟨b2', o2', q1, x2⟩ := e4.2 2 (by omega)
          cases q1
          obtain ⟨b2', o2', q1, x3⟩ := e4.2 3 (by omega)
          cases q1
          rw [Nat.add_zero] at x0
          have z2 := World.block_lt_of_cell? _ _ x0
          dsimp only at z2
          have hBsz := hbel.size
          have HA := Lib.hid (fun W (hW : Below wr.heap.size wr W) (i j n : Int) => Add_any W W0.heap.size Bk G vs vl (bRun steps k) (HBR.out.call hW) (Nat.le_trans hBsz hW.size) (HT.out.call (hbel.trans (hW.mono hBsz))) i j n)
          have HSe := Lib.hid (fun W (hW : Below wr.heap.size wr W) (i j n : Int) => Set_any W W0.heap.size Bk G vs vl (bRun steps k) (HBR.out.call hW) (Nat.le_trans hBsz hW.size) (HT.out.call (hbel.trans (hW.mono hBsz))) i j n)
          have HSS := Lib.hid (show bRun steps (k + 1) = if l.getD 0 0 = 0 then bSet (bRun steps k) (l.getD 1 0) (l.getD 2 0) (l.getD 3 0) else bAdd (bRun steps k) (l.getD 1 0) (l.getD 2 0) (l.getD 3 0) from by rw [HST.out, bStep, if_pos h4])
          generalize l.getD 0 0 = y0 at *
          generalize l.getD 1 0 = y1 at *
          generalize l.getD 2 0 = y2 at *
          generalize l.getD 3 0 = y3 at *
          clear h4 hll e4 e1 e2 e3 HST
          by_cases hy : y0 = 0
          · subst hy
            go_wp2_with fail
            refine wp_region_quiet_tail (C := Cls wr.heap.size wr) 10 (by kernel_rfl) (by kernel_rfl) Cls.start ?_
            simp only [List.take_succ_cons, List.take_zero, List.drop_succ_cons, List.drop_zero]
            repeat
              (refine wpQuiet_step (fun K hK => ?_)
               go_simp
               first
                 | (refine hK _ ?_; clear hK K)
                 | (apply Exists.intro
                    refine ⟨fun w' hC => ?_, hK _ ?_⟩
                    · (obtain ⟨hr, hr2⟩ := hC.rules
                       first
                         | (fail)
                         | (go_simp; done)
                         | (go_simp; rfl))
                    clear hK K))
            refine wpQuiet_nil ?_
            intro W5 hW5
            go_wp2_with fail
            go_at_call 13
            refine (HSe.out _ hW5 y1 y2 y3).mono ?_
            rintro e w6 ⟨rfl, ⟨vl', hB6, hbl⟩, hK6⟩
            have HB6 := Lib.hid (show BookAt w6 W0.heap.size Bk G vs vl' (bRun steps (k + 1)).1 (bRun steps (k + 1)).2 from by rw [HSS.out, if_pos trivial]; exact hB6)
            have hB2 := (hbel.trans (hW5.mono hBsz)).trans (hK6.below (HBR.out.call hW5))
            clear hB6 hbl hK6
            go_wp2_with fail
            go_roundg (61 - k)
            case measure => omega
            case rel => exact ⟨k + 1, by omega, by omega, by omega, by go_num, ⟨vl', HB6.out⟩, hB2⟩
          · have hyb : (y0 == 0) = false := by simp [hy]
            go_wp2_with fail
            refine wp_region_quiet_tail (C := Cls wr.heap.size wr) 10 (by kernel_rfl) (by kernel_rfl) Cls.start ?_
            simp only [List.take_succ_cons, List.take_zero, List.drop_succ_cons, List.drop_zero]
            repeat
              (refine wpQuiet_step (fun K hK => ?_)
               go_simp
               first
                 | (refine hK _ ?_; clear hK K)
                 | (apply Exists.intro
                    refine ⟨fun w' hC => ?_, hK _ ?_⟩
                    · (obtain ⟨hr, hr2⟩ := hC.rules
                       first
                         | (fail)
                         | (go_simp; done)
                         | (go_simp; rfl))
                    clear hK K))
            refine wpQuiet_nil ?_
            intro W5 hW5
            go_wp2_with fail
            go_at_call 18
            refine (HA.out _ hW5 y1 y2 y3).mono ?_
            rintro e w6 ⟨rfl, ⟨vl', hB6, hbl⟩, hK6⟩
            have HB6 := Lib.hid (show BookAt w6 W0.heap.size Bk G vs vl' (bRun steps (k + 1)).1 (bRun steps (k + 1)).2 from by rw [HSS.out, if_neg hy]; exact hB6)
            have hB2 := (hbel.trans (hW5.mono hBsz)).trans (hK6.below (HBR.out.call hW5))
            clear hB6 hbl hK6
            go_wp2_with fail
            go_roundg (61 - k)
            case measure => omega
            case rel => exact ⟨k + 1, by omega, by omega, by omega, by go_num, ⟨vl', HB6.out⟩, hB2⟩
        · have h4i : ((l.length : Int) != 4) = true := by simp; omega
          have HSS := Lib.hid (show bRun steps (k + 1) = bRun steps k from by rw [HST.out, bStep, if_neg h4])
          clear h4 HST e4
          go_wp2_with fail
          go_roundg (61 - k)
          case measure => omega
          case rel => exact ⟨k + 1, by omega, by omega, by omega, by go_num, ⟨vl, by rw [HSS.out]; exact HBR.out⟩, hbel⟩
      · have hk6i : ¬ (k : Int) < 60 := by omega
        have hbel := HW0.out.trans (hbel.mono HW0.out.size)
        have HL := Lib.hid (bRun_log steps k)
        have HBR0 := Lib.hid (HBR.out.mono (Nat.le_refl _))
        generalize bRun steps k = s at *
        have hsq := HL.out.ok.sq
        have hent := HL.out.ok.ent
        have HBW := Lib.hid (fun W (h : Below wr.heap.size wr W) => HBR.out.call h)
        have HTX := Lib.hid (fun W (h : Below wr.heap.size wr W) => Text_any W _ Bk G vs vl s.1 s.2 (HBR.out.call h) (Nat.le_trans HL.out.ok.len (by omega)) HL.out.ok.line)
        have HRW := Lib.hid (fun W (h : Below wr.heap.size wr W) => Rows_any W _ Bk G vs vl s.1 s.2 (HBR.out.call h))
        have HDT := Lib.hid (fun W (h : Below wr.heap.size wr W) => Det_any W _ Bk G vs vl s.1 s.2 (HBR.out.call h))
        have HDO := Lib.hid (fun W g (h : RowsAt W (some ⟨g, 0, none⟩) 4 s.1) => (show Calls Tryz.prog 19 #[.slice (some ⟨g, 0, none⟩) 4 4] W fun e w' => e = .returned (.tuple #[.int .i64 (G_det s.1), .nilIface]) ∧ Below W.heap.size W w' from DetFn_good g 0 4 4 s.1 W h (by omega) (by omega) (by omega) hsq hent))
        have HDM := Lib.hid (fun W g (h : RowsAt W (some ⟨g, 0, none⟩) 4 s.1) => (show Calls Tryz.prog 20 #[.slice (some ⟨g, 0, none⟩) 4 4] W fun e w' => e = .returned (.int .i64 (G_det s.1)) ∧ Below W.heap.size W w' from by
          have := DetMod_any 4 (some ⟨g, 0, none⟩) 4 s.1 W (by omega) (by omega) hsq (ent_of hsq hent) h
          rw [detN_G] at this
          exact this))
        have HEE := Lib.hid (fun W G1 G2 (h1 : RowsAt W (some ⟨G1, 0, none⟩) 4 s.1) (h2 : RowsAt W (some ⟨G2, 0, none⟩) 4 s.1) => ERows_like (some ⟨G1, 0, none⟩) (some ⟨G2, 0, none⟩) 4 4 4 s.1 W h1 h2 (by omega) (fun k hk => by rw [hsq.2 k hk]; omega))
        have HOG := Lib.hid (fun W h => Open_good s HL.out W h)
        have HOT := Lib.hid (fun W B Bk G vs vl (h : BookAt W B Bk G vs vl s.1 s.2) => Det_any W B Bk G vs vl s.1 s.2 h)
        have HOR := Lib.hid (fun W B Bk G vs vl (h : BookAt W B Bk G vs vl s.1 s.2) => Rows_any W B Bk G vs vl s.1 s.2 h)
        have h4r := hsq.1
        clear hent hsq HL HBR HBR0 HS HR HT HW0
        generalize G_det s.1 = D at *
        generalize textOf s.2 = T at *
        have hgz := HG.out.call hbel
        have HGW := Lib.hid (fun W (h : Below wr.heap.size wr W) => (show Glob W.heap.size W from glob_call' hgz hbel h))
        clear hgz
        go_wp2_with fail
        go_at_call 12
        refine (HRW.out _ (Below.refl _ _)).mono ?_
        rintro e w5 ⟨⟨G1, vs1, rfl, ho1⟩, hb5⟩
        have hr1 := ho1.read
        rw [h4r] at hr1
        go_wp2_with fail
        go_at_call 19
        refine (HDO.out _ _ hr1).mono ?_
        rintro e w6 ⟨rfl, hb6⟩
        have d6 := below_trans hb5 hb6
        go_wp2_with fail
        go_at_call 14
        refine (HDT.out _ d6).mono ?_
        rintro e w7 ⟨rfl, hb7⟩
        have d7 := below_trans d6 hb7
        go_wp2_with fail
        go_at_call 12
        refine (HRW.out _ d7).mono ?_
        rintro e w8 ⟨⟨G2, vs2, rfl, ho2⟩, hb8⟩
        have d8 := below_trans d7 hb8
        have hr2 := ho2.read
        rw [h4r] at hr2
        go_wp2_with fail
        go_at_call 20
        refine (HDM.out _ _ hr2).mono ?_
        rintro e w9 ⟨rfl, hb9⟩
        have d9 := below_trans d8 hb9
        go_wp2_with fail
        go_at_call 10
        refine (HTX.out _ d9).mono ?_
        rintro e w10 ⟨rfl, hb10⟩
        have d10 := below_trans d9 hb10
        go_wp2_with fail
        go_at_call 9
        refine (HOG.out _ (HGW.out _ d10)).mono ?_
        rintro e w11 ⟨⟨Bo, Go', vso, vlo, rfl, hO⟩, hb11⟩
        have d11 := below_trans d10 hb11
        have HO := Lib.hid hO
        clear hO ho1 hr1 ho2 hr2
        go_wp2_with fail
        go_at_call 14
        refine (HOT.out _ _ _ _ _ _ HO.out).mono ?_
        rintro e w12 ⟨rfl, hb12⟩
        have d12 := below_trans d11 hb12
        go_wp2_with fail
        go_at_call 12
        refine (HOR.out _ _ _ _ _ _ (HO.out.call hb12)).mono ?_
        rintro e w13 ⟨⟨G3, vs3, rfl, ho3⟩, hb13⟩
        have d13 := below_trans d12 hb13
        have hr3 := ho3.read
        rw [h4r] at hr3
        go_wp2_with fail
        go_at_call 12
        refine (HRW.out _ d13).mono ?_
        rintro e w14 ⟨⟨G4, vs4, rfl, ho4⟩, hb14⟩
        have d14 := below_trans d13 hb14
        have hr4 := ho4.read
        rw [h4r] at hr4
        go_wp2_with fail
        go_at_call 11
        refine (HEE.out _ _ _ (hr3.call hb14) hr4).mono ?_
        rintro e w15 ⟨rfl, hb15⟩
        have d15 := below_trans d14 hb15
        go_wp2_with fail
        go_ret
        exact ⟨rfl, below_trans hbel d15⟩
    · have hki : ¬ (k : Int) < (n : Int) := by omega
      have hbel := HW0.out.trans (hbel.mono HW0.out.size)
      have HL := Lib.hid (bRun_log steps k)
      have HBR0 := Lib.hid (HBR.out.mono (Nat.le_refl _))
      generalize bRun steps k = s at *
      have hsq := HL.out.ok.sq
      have hent := HL.out.ok.ent
      have HBW := Lib.hid (fun W (h : Below wr.heap.size wr W) => HBR.out.call h)
      have HTX := Lib.hid (fun W (h : Below wr.heap.size wr W) => Text_any W _ Bk G vs vl s.1 s.2 (HBR.out.call h) (Nat.le_trans HL.out.ok.len (by omega)) HL.out.ok.line)
      have HRW := Lib.hid (fun W (h : Below wr.heap.size wr W) => Rows_any W _ Bk G vs vl s.1 s.2 (HBR.out.call h))
      have HDT := Lib.hid (fun W (h : Below wr.heap.size wr W) => Det_any W _ Bk G vs vl s.1 s.2 (HBR.out.call h))
      have HDO := Lib.hid (fun W g (h : RowsAt W (some ⟨g, 0, none⟩) 4 s.1) => (show Calls Tryz.prog 19 #[.slice (some ⟨g, 0, none⟩) 4 4] W fun e w' => e = .returned (.tuple #[.int .i64 (G_det s.1), .nilIface]) ∧ Below W.heap.size W w' from DetFn_good g 0 4 4 s.1 W h (by omega) (by omega) (by omega) hsq hent))
      have HDM := Lib.hid (fun W g (h : RowsAt W (some ⟨g, 0, none⟩) 4 s.1) => (show Calls Tryz.prog 20 #[.slice (some ⟨g, 0, none⟩) 4 4] W fun e w' => e = .returned (.int .i64 (G_det s.1)) ∧ Below W.heap.size W w' from by
        have := DetMod_any 4 (some ⟨g, 0, none⟩) 4 s.1 W (by omega) (by omega) hsq (ent_of hsq hent) h
        rw [detN_G] at this
        exact this))
      have HEE := Lib.hid (fun W G1 G2 (h1 : RowsAt W (some ⟨G1, 0, none⟩) 4 s.1) (h2 : RowsAt W (some ⟨G2, 0, none⟩) 4 s.1) => ERows_like (some ⟨G1, 0, none⟩) (some ⟨G2, 0, none⟩) 4 4 4 s.1 W h1 h2 (by omega) (fun k hk => by rw [hsq.2 k hk]; omega))
      have HOG := Lib.hid (fun W h => Open_good s HL.out W h)
      have HOT := Lib.hid (fun W B Bk G vs vl (h : BookAt W B Bk G vs vl s.1 s.2) => Det_any W B Bk G vs vl s.1 s.2 h)
      have HOR := Lib.hid (fun W B Bk G vs vl (h : BookAt W B Bk G vs vl s.1 s.2) => Rows_any W B Bk G vs vl s.1 s.2 h)
      have h4r := hsq.1
      clear hent hsq HL HBR HBR0 HS HR HT HW0
      generalize G_det s.1 = D at *
      generalize textOf s.2 = T at *
      have hgz := HG.out.call hbel
      have HGW := Lib.hid (fun W (h : Below wr.heap.size wr W) => (show Glob W.heap.size W from glob_call' hgz hbel h))
      clear hgz
      go_wp2_with fail
      go_at_call 12
      refine (HRW.out _ (Below.refl _ _)).mono ?_
      rintro e w5 ⟨⟨G1, vs1, rfl, ho1⟩, hb5⟩
      have hr1 := ho1.read
      rw [h4r] at hr1
      go_wp2_with fail
      go_at_call 19
      refine (HDO.out _ _ hr1).mono ?_
      rintro e w6 ⟨rfl, hb6⟩
      have d6 := below_trans hb5 hb6
      go_wp2_with fail
      go_at_call 14
      refine (HDT.out _ d6).mono ?_
      rintro e w7 ⟨rfl, hb7⟩
      have d7 := below_trans d6 hb7
      go_wp2_with fail
      go_at_call 12
      refine (HRW.out _ d7).mono ?_
      rintro e w8 ⟨⟨G2, vs2, rfl, ho2⟩, hb8⟩
      have d8 := below_trans d7 hb8
      have hr2 := ho2.read
      rw [h4r] at hr2
      go_wp2_with fail
      go_at_call 20
      refine (HDM.out _ _ hr2).mono ?_
      rintro e w9 ⟨rfl, hb9⟩
      have d9 := below_trans d8 hb9
      go_wp2_with fail
      go_at_call 10
      refine (HTX.out _ d9).mono ?_
      rintro e w10 ⟨rfl, hb10⟩
      have d10 := below_trans d9 hb10
      go_wp2_with fail
      go_at_call 9
      refine (HOG.out _ (HGW.out _ d10)).mono ?_
      rintro e w11 ⟨⟨Bo, Go', vso, vlo, rfl, hO⟩, hb11⟩
      have d11 := below_trans d10 hb11
      have HO := Lib.hid hO
      clear hO ho1 hr1 ho2 hr2
      go_wp2_with fail
      go_at_call 14
      refine (HOT.out _ _ _ _ _ _ HO.out).mono ?_
      rintro e w12 ⟨rfl, hb12⟩
      have d12 := below_trans d11 hb12
      go_wp2_with fail
      go_at_call 12
      refine (HOR.out _ _ _ _ _ _ (HO.out.call hb12)).mono ?_
      rintro e w13 ⟨⟨G3, vs3, rfl, ho3⟩, hb13⟩
      have d13 := below_trans d12 hb13
      have hr3 := ho3.read
      rw [h4r] at hr3
      go_wp2_with fail
      go_at_call 12
      refine (HRW.out _ d13).mono ?_
      rintro e w14 ⟨⟨G4, vs4, rfl, ho4⟩, hb14⟩
      have d14 := below_trans d13 hb14
      have hr4 := ho4.read
      rw [h4r] at hr4
      go_wp2_with fail
      go_at_call 11
      refine (HEE.out _ _ _ (hr3.call hb14) hr4).mono ?_
      rintro e w15 ⟨rfl, hb15⟩
      have d15 := below_trans d14 hb15
      go_wp2_with fail
      go_ret
      exact ⟨rfl, below_trans hbel d15⟩
theorem frame_own : ownKnob Tryz.prog.godebug = none := by kernel_rfl
theorem frame_laid : laidOutB Tryz.prog = true := by kernel_rfl
theorem frame_pg : Tryz.prog.globalNamed "internal/strconv.uint64pow10" = some 6 := by kernel_rfl
theorem frame_pt : (Tryz.prog.globals[6]?).map (·.type) = some 160 := by kernel_rfl
theorem frame_pd {H : Type} : (Rows.laid_internal_strconv_uint64pow10 : DataW H) = Lib.tabData .u64 Lib.pow10Tab := by rfl
theorem tab_of_laid {W : World} (h : laidMetH Tryz.prog Rows.topBookRow.laid W) : Tab W.heap.size W := by
  have h' : laidMet Tryz.prog Rows.topBookRow.laid W := by rw [MakeChecks.laidMetH_plain _ _ _ (by kernel_rfl)] at h; exact h
  have hr : Lib.VarReads Tryz.prog W "internal/strconv.uint64pow10" Rows.laid_internal_strconv_uint64pow10 := Lib.laidMet.reads h' (by simp [Rows.topBookRow])
  rw [frame_pd] at hr
  exact Lib.tabBelow_of_tabIs (tabIs_of_reads frame_pg frame_pt Tryz.underlying160 Tryz.underlying141 (by kernel_rfl) (by kernel_rfl) hr)
theorem glob_of_laid {W : World} (h : laidMetH Tryz.prog Rows.topBookRow.laid W) (hS : W.ShapedOpen Tryz.prog) : Glob W.heap.size W := by
  have h' : laidMet Tryz.prog Rows.topBookRow.laid W := by
    have h2 := h
    rw [MakeChecks.laidMetH_plain _ _ _ (by kernel_rfl)] at h2
    exact h2
  have hr : Lib.VarReads Tryz.prog W "strconv.ErrRange" Rows.laid_strconv_ErrRange := Lib.laidMet.reads h' (by simp [Rows.topBookRow])
  exact glob_of (tab_of_laid h) (iface_of_reads (g := 5) (by kernel_rfl) (by kernel_rfl) Tryz.underlying27 hr) hS
noncomputable def laidWorld (os : Os) : World := (World.holding Tryz.prog os ⟨#[], #[], []⟩).layVars Tryz.prog (Rows.topBookRow.laid.filter fun x => x.2.handleName?.isNone)
theorem laidWorld_os (os : Os) : (laidWorld os).os = os := World.layVars_os _ _ _
theorem laidWorld_met (os : Os) (args : Array Value) : laidMetH Tryz.prog Rows.topBookRow.laid ((laidWorld os).forCall (fun _ _ => 0) ⟨#[], args, []⟩).memory :=
  laidMetH_of_parts (laidMet.of_heap (by simp [laidWorld, World.memory, World.forCall, Input.heap]) (laidMet_over (w0 := (World.holding Tryz.prog os ⟨#[], #[], []⟩)) (by kernel_rfl) (by kernel_rfl))) (by kernel_rfl)
set_option maxRecDepth 100000 in
theorem frame_lifted (os : Os) (started : os.Started) (H : Type) (enc : TypeId × Value → H) :
    ReturnsInHanded {} Tryz.checked os 6 .any (fun w args => (Rows.topBookSpec.pre enc Tryz.prog Tryz.f6 Rows.topBookRow.domain false w args ∧ laidMetH Tryz.prog Rows.topBookRow.laid w) ∧ sizedMet enc Tryz.prog Tryz.f6 (OpenSpec.ofChange Rows.topBookSpec) false w args) (Rows.topBookSpec.post enc Tryz.prog Tryz.f6 false true false false) := by
  refine returns_and_shaped (C := Tryz.checked) (X := (fun w _ => laidMetH Tryz.prog Rows.topBookRow.laid w)) (fun _ _ _ hh h => h.of_heap hh) frame_own started (by kernel_rfl) Tryz.func6
    (ChangeSpec.witness_shaped (enc := enc) (C := Tryz.checked) (os := os) (X := (fun w _ => laidMetH Tryz.prog Rows.topBookRow.laid w)) false (laidWorld os) #[.slice none 0 0] 8 (laidWorld_os os) (World.shaped_of_ZipB (by kernel_rfl) (by kernel_rfl)) (by kernel_rfl) (by kernel_rfl) (by kernel_rfl) (laidWorld_met os _)) ?_
  intro W base args ds gs before hval0 hW hcnd _ hLaid hSh _
  have hval : ∀ (j : Nat) t v, Tryz.f6.params[j]? = some t → args[j]? = some v → Value.okWide Tryz.prog W .any base t v := hval0
  have hW' := hW
  obtain ⟨p, q, hA0, hV, rfl, hfz, hnd⟩ := hW
  have hA : DataW.TrodAll enc Tryz.prog W 0 (fun _ => true) true Tryz.f6.params.toList args.toList ds p := hA0
  rw [Tryz.params6] at hA hval
  obtain ⟨v0, vs0, d0, ds0, p0, q0, hargs, rfl, rfl, h0, r0⟩ := trodAll_cons hA
  obtain ⟨rfl, rfl, rfl⟩ := trodAll_nil r0
  obtain rfl : args = #[v0] := by cases args; simp_all
  obtain ⟨rfl, rfl⟩ := trodVars_none hV
  have k0 := h0
  have lt0 : ∀ x ∈ p0, x.block < W.heap.size := by obtain ⟨m, hm⟩ := k0; exact DataW.trod_lt m _ _ _ hm
  obtain ⟨a0, len0, cap0, rfl⟩ := okWide_slice Tryz.underlying22 (hval 0 22 v0 rfl rfl)
  obtain ⟨xs0, hxs0, hcap0, hmax0⟩ := open_rowsAt Tryz.underlying22 Tryz.underlying45 Tryz.underlying3 (by kernel_rfl) (by kernel_rfl) h0
  clear hA0 hval0
  refine (TopBook_any a0 len0 cap0 xs0 hxs0 hcap0 hmax0 W rfl (glob_of_laid hLaid hSh)).mono fun e W' ⟨he, bel⟩ => ?_
  subst he
  exact ⟨_, rfl, _, _, _, [], _, [], hW', trodAll_mk1 (shut_bool Tryz.underlying4 _), (trodAll_cons_mk (Below.trod frame_laid (by kernel_rfl) (of_decide_eq_true (by kernel_rfl)) k0 bel lt0) trodAll_mk0), rfl, bel.frame _, fun h => by cases h⟩

theorem TopBook_over : Rows.topBookRow.holds Tryz.pinned (OpenSpec.ofChange Rows.topBookSpec) :=
  OpenClaim.holds_of_wide 6 Tryz.f6 rfl rfl rfl rfl rfl rfl rfl ⟨rfl, rfl, rfl, rfl, rfl⟩ rfl rfl rfl rfl rfl (by kernel_rfl) Tryz.func6 (by kernel_rfl)
    (of_decide_eq_true (by kernel_rfl)) (by unfold Func.isWrapper; first | (rw [if_pos (by decide +kernel)]; kernel_rfl) | (rw [if_neg (by decide +kernel)]; exact ⟨rfl, rfl⟩))
    (fun os started H enc _ => frame_lifted os started H enc)

theorem frame_wants : ∀ t ∈ [22], Tryz.prog.wantsStandIn t = false := by
  intro t ht
  simp only [List.mem_cons, List.not_mem_nil, or_false] at ht
  subst ht; kernel_rfl
/-- THE STATEMENT: THE TIED CARD -/
theorem TopBook_holds : Rows.TopBookCardSaid :=
  Claim7.holds_tied_plain_at .later [] [.data, .data, .data, .data, .sentinel, .sentinel, .pinned] true _ true
    TopBook_over (fun _ h => by cases h) (by kernel_rfl) (fun _ h => by cases h) topBook_row_tie rfl ⟨rfl, rfl⟩ (by kernel_rfl) rfl
    (fun f fn hf hfn => by
      obtain rfl : f = 6 := Option.some.inj ((show Tryz.prog.funcNamed "rankmere/rankmeretop.TopBook" = some 6 by kernel_rfl).symm.trans hf) |>.symm
      obtain rfl : fn = Tryz.f6 := (Option.some.inj (Tryz.func6.symm.trans hfn)).symm
      exact ⟨by kernel_rfl, fun j t ht => by
        rw [Tryz.params6] at ht
        exact frame_wants t (by have := Array.mem_of_getElem? ht; simpa using this)⟩)
    (by kernel_rfl)
end Go.Proofs.YtkpoemfdepjkaaaGreatDoor.TopBookP
