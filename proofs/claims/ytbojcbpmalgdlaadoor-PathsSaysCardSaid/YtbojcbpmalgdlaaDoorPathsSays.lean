/- It proves that rankmerelaw4.PathsSays, called with any width, any two lists of heights and any number, returns true, and leaves its arguments as they were. The one condition: errors.errorType is as the program's text lays it; the card ties it. -/
import Derived.Test.YtbojcbpmalgdlaaDoorHApart
import Derived.Test.YtbojcbpmalgdlaaDoorHWays
import Derived.Test.YtbojcbpmalgdlaaDoorPathFact
import Derived.Test.YtbojcbpmalgdlaaDoorTold
import Derived.Test.YtbojcbpmalgdlaaDoorLawIn
import Derived.Test.YtbojcbpmalgdlaaDoorOpen
import Derived.Test.YtbojcbpmalgdlaaDoorTie
import Derived.Test.YtbojcbpmalgdlaaDoorCards
import Derived.ProofKit
import Derived.OpenShut
import Derived.ShutString
import Derived.ChangeOld
import Derived.ChangeVars
import Derived.Lib.SmallJoins
import Derived.LaidLaws
import Derived.LaidHandle
import Derived.Stop.Joined
import Derived.SevenTiedAt
namespace Go.Proofs.YtbojcbpmalgdlaaDoor.PathsSaysP
open Go.ChangeShapes Go.WideShapes Go.ChangeAt Go.RowKit Go.Joins
open Go.ChangeMaps (open_string shut_string)
open Go.Proofs.YtbojcbpmalgdlaaDoor
set_option linter.unusedVariables false
set_option linter.unusedSimpArgs false

theorem told (x : Int) (w : World) (hg : Handle w) : Calls Tryd.prog 5 #[errV x, .int .i64 x] w fun ev w' => ev = .returned (.bool true) ∧ Below w.heap.size w w' := by
  have h := EError_any x x w hg
  rw [show (x == x) = true by simp] at h
  exact h
theorem inR_1 {a : Nat} (h : a < 7) : InR [(a : Int)] := InR.nil.snoc (by omega) (by omega)
theorem inR_2 {a b : Nat} (h : a < 7) (h2 : b < 7) : InR [(a : Int), (b : Int)] := (inR_1 h).snoc (by omega) (by omega)
theorem inR_3 {a b c : Nat} (h : a < 7) (h2 : b < 7) (h3 : c < 7) : InR [(a : Int), (b : Int), (c : Int)] := (inR_2 h h2).snoc (by omega) (by omega)
/-- the families, column by column, are what paths.Apart answers -/
theorem says_ap {width : Int} {f t : List Int} (h : pathErr width f t = 0) : ∃ w : Nat, width = w ∧ w < 5 ∧ InR f ∧ InR t ∧ wrap64 (apK t w f f.length []) = apartV width f t := by
  have hb := apart_bd width f t
  have hv : apartV width f t = G (-1) f.length (wayF width.toNat f t) := by unfold apartV; rw [if_pos h]
  obtain ⟨w, rfl, hw, hc⟩ := path_cases h
  refine ⟨w, rfl, hw, ?_⟩
  have key : ∀ X : Int, X = apartV w f t → wrap64 X = apartV w f t := fun X e => by rw [e, wrap_in (by omega) (by omega)]
  rcases hc with ⟨a, a', rfl, rfl, h1, h2⟩ | ⟨a, b, a', b', rfl, rfl, h1, h2, h3, h4⟩ | ⟨a, b, c, a', b', c', rfl, rfl, h1, h2, h3, h4, h5, h6⟩
  · refine ⟨inR_1 h1, inR_1 h2, key _ ?_⟩
    rw [hv]
    show apK [(a' : Int)] w [(a : Int)] 1 [] = G (-1) 1 _
    rw [ap_one (by omega) w a (by omega), G_1]
    rfl
  · refine ⟨inR_2 (by omega) h2, inR_2 (by omega) h4, key _ ?_⟩
    rw [hv]
    show apK [(a' : Int), (b' : Int)] w [(a : Int), (b : Int)] 2 [] = G (-1) 2 _
    rw [ap_two (by omega) (by omega) w a b (by omega) (by omega), G_2]
    rfl
  · refine ⟨inR_3 (by omega) (by omega) h3, inR_3 (by omega) (by omega) h6, key _ ?_⟩
    rw [hv]
    show apK [(a' : Int), (b' : Int), (c' : Int)] w [(a : Int), (b : Int), (c : Int)] 3 [] = G (-1) 3 _
    rw [ap_three (by omega) (by omega) (by omega) w a b c (by omega) (by omega) (by omega), G_3]
    rfl
theorem says_ways {width up : Int} (h : waysE width up = 0) : ∃ r u : Nat, width = r ∧ up = u ∧ r ≤ 4 ∧ u ≤ 6 ∧ wrap64 (hwU r u) = waysV width up := by
  obtain ⟨h1, h2, h3, h4⟩ := waysE_good h
  obtain ⟨r, rfl⟩ := Int.eq_ofNat_of_zero_le h1
  obtain ⟨u, rfl⟩ := Int.eq_ofNat_of_zero_le h3
  refine ⟨r, u, rfl, rfl, by omega, by omega, ?_⟩
  have hb := waysT_bd (r + 1) (by omega) u (by omega)
  rw [hw_ways, wrap_in (by omega) (by omega)]
  unfold waysV
  rw [if_pos h]
  unfold waysZ
  rw [if_neg (by omega)]
  rfl
set_option maxHeartbeats 1000000 in
theorem says_gtt (width up : Int) (a b : Option Addr) (n m cap cap' : Nat) (f t : List Int) (w : World) (hf : IntsAt w a n f) (ht : IntsAt w b m t) (hn : n ≤ 9223372036854775807) (hm : m ≤ 9223372036854775807) (hp : pathErr width f t = 0) (h1 : inB width 0 4 = true) (h2 : inB up 0 6 = true) (hg : Handle w) :
    Calls Tryd.prog 3 #[.int .i64 width, .slice a n cap, .slice b m cap', .int .i64 up] w fun e w' => e = .returned (.bool true) ∧ Below w.heap.size w w' := by
  have c0 := fun W (h : IntsAt W a n f) (k : IntsAt W b m t) => HHeights_any width a b n m cap cap' f t W h k hn hm
  have c1 := fun W (h : IntsAt W a n f) (k : IntsAt W b m t) => PathCheck_any width a b n m cap cap' f t W h k hn hm
  have c2 := fun W (h : IntsAt W a n f) (k : IntsAt W b m t) => Apart_any width a b n m cap cap' f t W h k hn hm
  have c3 := fun W => Ways_any width up W
  obtain ⟨g1, g2, g3, g4, g5, g6, g7⟩ := pathErr_good hp
  obtain ⟨q, hq, hq5, hr1, hr2, hv⟩ := says_ap hp
  have hfl := hf.1
  have htl := ht.1
  obtain rfl : m = n := by omega
  have c4 := fun W (h : IntsAt W a m f) (k : IntsAt W b m t) => HApart_any m (by omega) b cap' m t hr2 (Nat.le_refl _) q a cap f W (by omega) h k hr1
  rw [← hq] at c4
  rw [show m = f.length from hfl.symm] at c4
  rw [hv, hfl] at c4
  rw [hp] at c0 c1 c2
  rw [errV_zero] at c1 c2
  have tz := told 0
  rw [errV_zero] at tz
  have he : waysE width up = 0 := by simp [inB] at h1 h2; exact waysE_iff (by omega) (by omega) (by omega) (by omega)
  obtain ⟨r, u, hwr, hur, hr4, hu6, hwv⟩ := says_ways he
  have c5 := fun W => HWays_any (r + u) (by omega) r u W rfl
  rw [hwv, ← hwr, ← hur] at c5
  rw [he, errV_zero] at c3
  generalize apartV width f t = V1 at *
  generalize waysV width up = V2 at *
  have HF := Lib.hid hf
  have HT := Lib.hid ht
  have HG := Lib.hid hg
  have H1 := Lib.hid h1
  have H2 := Lib.hid h2
  clear hf ht hg hp he h1 hn hm h2 hv g1 g2 g3 g4 g5 g6 g7 hq5 hr1 hr2 hfl htl hq hwv hwr hur hr4 hu6
  go_enter Tryd.func3, Tryd.ntmps3
  go_wp2_with fail
  go_at_call 4
  refine (c0 _ HF.out HT.out).mono ?_
  rintro e w1 ⟨rfl, hb1⟩
  have hB1 := hb1
  go_wp2_with fail
  go_at_call 6
  refine (c1 _ (HF.out.call hB1) (HT.out.call hB1)).mono ?_
  rintro e w2 ⟨rfl, hb2⟩
  have hB2 := below_trans hB1 hb2
  go_wp2_with fail
  go_at_call 5
  refine (tz _ (HG.out.call hB2)).mono ?_
  rintro e w3 ⟨rfl, hb3⟩
  have hB3 := below_trans hB2 hb3
  go_wp2_with fail
  go_at_call 7
  refine (c4 _ (HF.out.call hB3) (HT.out.call hB3)).mono ?_
  rintro e w4 ⟨rfl, hb4⟩
  have hB4 := below_trans hB3 hb4
  go_wp2_with fail
  go_at_call 8
  refine (c2 _ (HF.out.call hB4) (HT.out.call hB4)).mono ?_
  rintro e w5 ⟨rfl, hb5⟩
  have hB5 := below_trans hB4 hb5
  go_wp2_with fail
  go_at_call 5
  refine (tz _ (HG.out.call hB5)).mono ?_
  rintro e w6 ⟨rfl, hb6⟩
  have hB6 := below_trans hB5 hb6
  go_wp2_with fail
  go_at_call 9
  refine (in_any _ _ _ _).mono ?_
  rintro e w7 ⟨rfl, rfl⟩
  rw [H1.out]
  go_wp2_with fail
  go_at_call 9
  refine (in_any _ _ _ _).mono ?_
  rintro e w8 ⟨rfl, rfl⟩
  rw [H2.out]
  go_wp2_with fail
  go_at_call 10
  refine (c5 _).mono ?_
  rintro e w9 ⟨rfl, rfl⟩
  go_wp2_with fail
  go_at_call 11
  refine (c3 _).mono ?_
  rintro e w10 ⟨rfl, hb10⟩
  have hB10 := below_trans hB6 hb10
  go_wp2_with fail
  go_at_call 5
  refine (tz _ (HG.out.call hB10)).mono ?_
  rintro e w11 ⟨rfl, hb11⟩
  have hB11 := below_trans hB10 hb11
  go_wp2_with fail
  go_ret
  exact ⟨rfl, hB11⟩
set_option maxHeartbeats 1000000 in
theorem says_gtf (width up : Int) (a b : Option Addr) (n m cap cap' : Nat) (f t : List Int) (w : World) (hf : IntsAt w a n f) (ht : IntsAt w b m t) (hn : n ≤ 9223372036854775807) (hm : m ≤ 9223372036854775807) (hp : pathErr width f t = 0) (h1 : inB width 0 4 = true) (h2 : inB up 0 6 = false) (hg : Handle w) :
    Calls Tryd.prog 3 #[.int .i64 width, .slice a n cap, .slice b m cap', .int .i64 up] w fun e w' => e = .returned (.bool true) ∧ Below w.heap.size w w' := by
  have c0 := fun W (h : IntsAt W a n f) (k : IntsAt W b m t) => HHeights_any width a b n m cap cap' f t W h k hn hm
  have c1 := fun W (h : IntsAt W a n f) (k : IntsAt W b m t) => PathCheck_any width a b n m cap cap' f t W h k hn hm
  have c2 := fun W (h : IntsAt W a n f) (k : IntsAt W b m t) => Apart_any width a b n m cap cap' f t W h k hn hm
  have c3 := fun W => Ways_any width up W
  obtain ⟨g1, g2, g3, g4, g5, g6, g7⟩ := pathErr_good hp
  obtain ⟨q, hq, hq5, hr1, hr2, hv⟩ := says_ap hp
  have hfl := hf.1
  have htl := ht.1
  obtain rfl : m = n := by omega
  have c4 := fun W (h : IntsAt W a m f) (k : IntsAt W b m t) => HApart_any m (by omega) b cap' m t hr2 (Nat.le_refl _) q a cap f W (by omega) h k hr1
  rw [← hq] at c4
  rw [show m = f.length from hfl.symm] at c4
  rw [hv, hfl] at c4
  rw [hp] at c0 c1 c2
  rw [errV_zero] at c1 c2
  have tz := told 0
  rw [errV_zero] at tz
  have he : waysE width up = 1 := waysE_bad (by simp [inB] at h1 h2; omega)
  have hwv : waysV width up = 0 := by unfold waysV; rw [if_neg (by omega)]
  rw [hwv, he] at c3
  generalize apartV width f t = V1 at *
  generalize waysV width up = V2 at *
  have HF := Lib.hid hf
  have HT := Lib.hid ht
  have HG := Lib.hid hg
  have H1 := Lib.hid h1
  have H2 := Lib.hid h2
  clear hf ht hg hp he h1 hn hm h2 hv g1 g2 g3 g4 g5 g6 g7 hq5 hr1 hr2 hfl htl hq hwv
  go_enter Tryd.func3, Tryd.ntmps3
  go_wp2_with fail
  go_at_call 4
  refine (c0 _ HF.out HT.out).mono ?_
  rintro e w1 ⟨rfl, hb1⟩
  have hB1 := hb1
  go_wp2_with fail
  go_at_call 6
  refine (c1 _ (HF.out.call hB1) (HT.out.call hB1)).mono ?_
  rintro e w2 ⟨rfl, hb2⟩
  have hB2 := below_trans hB1 hb2
  go_wp2_with fail
  go_at_call 5
  refine (tz _ (HG.out.call hB2)).mono ?_
  rintro e w3 ⟨rfl, hb3⟩
  have hB3 := below_trans hB2 hb3
  go_wp2_with fail
  go_at_call 7
  refine (c4 _ (HF.out.call hB3) (HT.out.call hB3)).mono ?_
  rintro e w4 ⟨rfl, hb4⟩
  have hB4 := below_trans hB3 hb4
  go_wp2_with fail
  go_at_call 8
  refine (c2 _ (HF.out.call hB4) (HT.out.call hB4)).mono ?_
  rintro e w5 ⟨rfl, hb5⟩
  have hB5 := below_trans hB4 hb5
  go_wp2_with fail
  go_at_call 5
  refine (tz _ (HG.out.call hB5)).mono ?_
  rintro e w6 ⟨rfl, hb6⟩
  have hB6 := below_trans hB5 hb6
  go_wp2_with fail
  go_at_call 9
  refine (in_any _ _ _ _).mono ?_
  rintro e w7 ⟨rfl, rfl⟩
  rw [H1.out]
  go_wp2_with fail
  go_at_call 9
  refine (in_any _ _ _ _).mono ?_
  rintro e w8 ⟨rfl, rfl⟩
  rw [H2.out]
  go_wp2_with fail
  go_at_call 11
  refine (c3 _).mono ?_
  rintro e w9 ⟨rfl, hb9⟩
  have hB9 := below_trans hB6 hb9
  go_wp2_with fail
  go_at_call 5
  refine (told 1 _ (HG.out.call hB9)).mono ?_
  rintro e w10 ⟨rfl, hb10⟩
  have hB10 := below_trans hB9 hb10
  go_wp2_with fail
  go_ret
  exact ⟨rfl, hB10⟩
set_option maxHeartbeats 1000000 in
theorem says_btt (width up : Int) (a b : Option Addr) (n m cap cap' : Nat) (f t : List Int) (w : World) (hf : IntsAt w a n f) (ht : IntsAt w b m t) (hn : n ≤ 9223372036854775807) (hm : m ≤ 9223372036854775807) (hp : pathErr width f t ≠ 0) (h1 : inB width 0 4 = true) (h2 : inB up 0 6 = true) (hg : Handle w) :
    Calls Tryd.prog 3 #[.int .i64 width, .slice a n cap, .slice b m cap', .int .i64 up] w fun e w' => e = .returned (.bool true) ∧ Below w.heap.size w w' := by
  have c0 := fun W (h : IntsAt W a n f) (k : IntsAt W b m t) => HHeights_any width a b n m cap cap' f t W h k hn hm
  have c1 := fun W (h : IntsAt W a n f) (k : IntsAt W b m t) => PathCheck_any width a b n m cap cap' f t W h k hn hm
  have c2 := fun W (h : IntsAt W a n f) (k : IntsAt W b m t) => Apart_any width a b n m cap cap' f t W h k hn hm
  have c3 := fun W => Ways_any width up W
  have hv : apartV width f t = 0 := by unfold apartV; rw [if_neg hp]
  rw [hv] at c2
  have hpb : (pathErr width f t == 0) = false := by simpa using hp
  have he : waysE width up = 0 := by simp [inB] at h1 h2; exact waysE_iff (by omega) (by omega) (by omega) (by omega)
  obtain ⟨r, u, hwr, hur, hr4, hu6, hwv⟩ := says_ways he
  have c5 := fun W => HWays_any (r + u) (by omega) r u W rfl
  rw [hwv, ← hwr, ← hur] at c5
  rw [he, errV_zero] at c3
  have tz := told 0
  rw [errV_zero] at tz
  skip
  generalize pathErr width f t = E1 at *
  generalize waysV width up = V2 at *
  have HF := Lib.hid hf
  have HT := Lib.hid ht
  have HG := Lib.hid hg
  have H1 := Lib.hid h1
  have H2 := Lib.hid h2
  clear hf ht hg hp he h1 hn hm h2 hv hwv hwr hur hr4 hu6
  go_enter Tryd.func3, Tryd.ntmps3
  go_wp2_with fail
  go_at_call 4
  refine (c0 _ HF.out HT.out).mono ?_
  rintro e w1 ⟨rfl, hb1⟩
  have hB1 := hb1
  go_wp2_with fail
  go_at_call 6
  refine (c1 _ (HF.out.call hB1) (HT.out.call hB1)).mono ?_
  rintro e w2 ⟨rfl, hb2⟩
  have hB2 := below_trans hB1 hb2
  go_wp2_with fail
  go_at_call 5
  refine (told _ _ (HG.out.call hB2)).mono ?_
  rintro e w3 ⟨rfl, hb3⟩
  have hB3 := below_trans hB2 hb3
  go_wp2_with fail
  go_at_call 8
  refine (c2 _ (HF.out.call hB3) (HT.out.call hB3)).mono ?_
  rintro e w4 ⟨rfl, hb4⟩
  have hB4 := below_trans hB3 hb4
  go_wp2_with fail
  go_at_call 5
  refine (told _ _ (HG.out.call hB4)).mono ?_
  rintro e w5 ⟨rfl, hb5⟩
  have hB5 := below_trans hB4 hb5
  go_wp2_with fail
  go_at_call 9
  refine (in_any _ _ _ _).mono ?_
  rintro e w6 ⟨rfl, rfl⟩
  rw [H1.out]
  go_wp2_with fail
  go_at_call 9
  refine (in_any _ _ _ _).mono ?_
  rintro e w7 ⟨rfl, rfl⟩
  rw [H2.out]
  go_wp2_with fail
  go_at_call 10
  refine (c5 _).mono ?_
  rintro e w8 ⟨rfl, rfl⟩
  go_wp2_with fail
  go_at_call 11
  refine (c3 _).mono ?_
  rintro e w9 ⟨rfl, hb9⟩
  have hB9 := below_trans hB5 hb9
  go_wp2_with fail
  go_at_call 5
  refine (tz _ (HG.out.call hB9)).mono ?_
  rintro e w10 ⟨rfl, hb10⟩
  have hB10 := below_trans hB9 hb10
  go_wp2_with fail
  go_ret
  exact ⟨rfl, hB10⟩
set_option maxHeartbeats 1000000 in
theorem says_btf (width up : Int) (a b : Option Addr) (n m cap cap' : Nat) (f t : List Int) (w : World) (hf : IntsAt w a n f) (ht : IntsAt w b m t) (hn : n ≤ 9223372036854775807) (hm : m ≤ 9223372036854775807) (hp : pathErr width f t ≠ 0) (h1 : inB width 0 4 = true) (h2 : inB up 0 6 = false) (hg : Handle w) :
    Calls Tryd.prog 3 #[.int .i64 width, .slice a n cap, .slice b m cap', .int .i64 up] w fun e w' => e = .returned (.bool true) ∧ Below w.heap.size w w' := by
  have c0 := fun W (h : IntsAt W a n f) (k : IntsAt W b m t) => HHeights_any width a b n m cap cap' f t W h k hn hm
  have c1 := fun W (h : IntsAt W a n f) (k : IntsAt W b m t) => PathCheck_any width a b n m cap cap' f t W h k hn hm
  have c2 := fun W (h : IntsAt W a n f) (k : IntsAt W b m t) => Apart_any width a b n m cap cap' f t W h k hn hm
  have c3 := fun W => Ways_any width up W
  have hv : apartV width f t = 0 := by unfold apartV; rw [if_neg hp]
  rw [hv] at c2
  have hpb : (pathErr width f t == 0) = false := by simpa using hp
  have he : waysE width up = 1 := waysE_bad (by simp [inB] at h1 h2; omega)
  have hwv : waysV width up = 0 := by unfold waysV; rw [if_neg (by omega)]
  rw [hwv, he] at c3
  skip
  generalize pathErr width f t = E1 at *
  generalize waysV width up = V2 at *
  have HF := Lib.hid hf
  have HT := Lib.hid ht
  have HG := Lib.hid hg
  have H1 := Lib.hid h1
  have H2 := Lib.hid h2
  clear hf ht hg hp he h1 hn hm h2 hv hwv
  go_enter Tryd.func3, Tryd.ntmps3
  go_wp2_with fail
  go_at_call 4
  refine (c0 _ HF.out HT.out).mono ?_
  rintro e w1 ⟨rfl, hb1⟩
  have hB1 := hb1
  go_wp2_with fail
  go_at_call 6
  refine (c1 _ (HF.out.call hB1) (HT.out.call hB1)).mono ?_
  rintro e w2 ⟨rfl, hb2⟩
  have hB2 := below_trans hB1 hb2
  go_wp2_with fail
  go_at_call 5
  refine (told _ _ (HG.out.call hB2)).mono ?_
  rintro e w3 ⟨rfl, hb3⟩
  have hB3 := below_trans hB2 hb3
  go_wp2_with fail
  go_at_call 8
  refine (c2 _ (HF.out.call hB3) (HT.out.call hB3)).mono ?_
  rintro e w4 ⟨rfl, hb4⟩
  have hB4 := below_trans hB3 hb4
  go_wp2_with fail
  go_at_call 5
  refine (told _ _ (HG.out.call hB4)).mono ?_
  rintro e w5 ⟨rfl, hb5⟩
  have hB5 := below_trans hB4 hb5
  go_wp2_with fail
  go_at_call 9
  refine (in_any _ _ _ _).mono ?_
  rintro e w6 ⟨rfl, rfl⟩
  rw [H1.out]
  go_wp2_with fail
  go_at_call 9
  refine (in_any _ _ _ _).mono ?_
  rintro e w7 ⟨rfl, rfl⟩
  rw [H2.out]
  go_wp2_with fail
  go_at_call 11
  refine (c3 _).mono ?_
  rintro e w8 ⟨rfl, hb8⟩
  have hB8 := below_trans hB5 hb8
  go_wp2_with fail
  go_at_call 5
  refine (told 1 _ (HG.out.call hB8)).mono ?_
  rintro e w9 ⟨rfl, hb9⟩
  have hB9 := below_trans hB8 hb9
  go_wp2_with fail
  go_ret
  exact ⟨rfl, hB9⟩
set_option maxHeartbeats 1000000 in
theorem says_bff (width up : Int) (a b : Option Addr) (n m cap cap' : Nat) (f t : List Int) (w : World) (hf : IntsAt w a n f) (ht : IntsAt w b m t) (hn : n ≤ 9223372036854775807) (hm : m ≤ 9223372036854775807) (hp : pathErr width f t ≠ 0) (h1 : inB width 0 4 = false) (hg : Handle w) :
    Calls Tryd.prog 3 #[.int .i64 width, .slice a n cap, .slice b m cap', .int .i64 up] w fun e w' => e = .returned (.bool true) ∧ Below w.heap.size w w' := by
  have c0 := fun W (h : IntsAt W a n f) (k : IntsAt W b m t) => HHeights_any width a b n m cap cap' f t W h k hn hm
  have c1 := fun W (h : IntsAt W a n f) (k : IntsAt W b m t) => PathCheck_any width a b n m cap cap' f t W h k hn hm
  have c2 := fun W (h : IntsAt W a n f) (k : IntsAt W b m t) => Apart_any width a b n m cap cap' f t W h k hn hm
  have c3 := fun W => Ways_any width up W
  have hv : apartV width f t = 0 := by unfold apartV; rw [if_neg hp]
  rw [hv] at c2
  have hpb : (pathErr width f t == 0) = false := by simpa using hp
  have he : waysE width up = 1 := waysE_bad (by simp [inB] at h1; omega)
  have hwv : waysV width up = 0 := by unfold waysV; rw [if_neg (by omega)]
  rw [hwv, he] at c3
  skip
  generalize pathErr width f t = E1 at *
  generalize waysV width up = V2 at *
  have HF := Lib.hid hf
  have HT := Lib.hid ht
  have HG := Lib.hid hg
  have H1 := Lib.hid h1
  clear hf ht hg hp he h1 hn hm hv hwv
  go_enter Tryd.func3, Tryd.ntmps3
  go_wp2_with fail
  go_at_call 4
  refine (c0 _ HF.out HT.out).mono ?_
  rintro e w1 ⟨rfl, hb1⟩
  have hB1 := hb1
  go_wp2_with fail
  go_at_call 6
  refine (c1 _ (HF.out.call hB1) (HT.out.call hB1)).mono ?_
  rintro e w2 ⟨rfl, hb2⟩
  have hB2 := below_trans hB1 hb2
  go_wp2_with fail
  go_at_call 5
  refine (told _ _ (HG.out.call hB2)).mono ?_
  rintro e w3 ⟨rfl, hb3⟩
  have hB3 := below_trans hB2 hb3
  go_wp2_with fail
  go_at_call 8
  refine (c2 _ (HF.out.call hB3) (HT.out.call hB3)).mono ?_
  rintro e w4 ⟨rfl, hb4⟩
  have hB4 := below_trans hB3 hb4
  go_wp2_with fail
  go_at_call 5
  refine (told _ _ (HG.out.call hB4)).mono ?_
  rintro e w5 ⟨rfl, hb5⟩
  have hB5 := below_trans hB4 hb5
  go_wp2_with fail
  go_at_call 9
  refine (in_any _ _ _ _).mono ?_
  rintro e w6 ⟨rfl, rfl⟩
  rw [H1.out]
  go_wp2_with fail
  go_at_call 11
  refine (c3 _).mono ?_
  rintro e w7 ⟨rfl, hb7⟩
  have hB7 := below_trans hB5 hb7
  go_wp2_with fail
  go_at_call 5
  refine (told 1 _ (HG.out.call hB7)).mono ?_
  rintro e w8 ⟨rfl, hb8⟩
  have hB8 := below_trans hB7 hb8
  go_wp2_with fail
  go_ret
  exact ⟨rfl, hB8⟩
theorem PathsSays_any (width : Int) (a : Option Addr) (n cap : Nat) (f : List Int) {w1 : World} (hf : IntsAt w1 a n f) (hcap : n ≤ cap) (hmx : cap ≤ 9223372036854775807 ∧ (a = none → cap = 0)) (b : Option Addr) (m cap' : Nat) (t : List Int) {w2 : World} (ht : IntsAt w2 b m t) (hcap' : m ≤ cap') (hmx' : cap' ≤ 9223372036854775807 ∧ (b = none → cap' = 0)) (up : Int) (w : World) (e1 : w1 = w) (e2 : w2 = w) (hg : Handle w) :
    Calls Tryd.prog 3 #[.int .i64 width, .slice a n cap, .slice b m cap', .int .i64 up] w fun e w' => e = .returned (.bool true) ∧ Below w.heap.size w w' := by
  subst e1 e2
  have hn : n ≤ 9223372036854775807 := by omega
  have hm : m ≤ 9223372036854775807 := by omega
  by_cases hp : pathErr width f t = 0
  · have h1 : inB width 0 4 = true := by
      obtain ⟨g1, g2, _⟩ := pathErr_good hp
      exact inB_yes g1 g2
    cases h2 : inB up 0 6
    · exact says_gtf width up a b n m cap cap' f t _ hf ht hn hm hp h1 h2 hg
    · exact says_gtt width up a b n m cap cap' f t _ hf ht hn hm hp h1 h2 hg
  · cases h1 : inB width 0 4
    · exact says_bff width up a b n m cap cap' f t _ hf ht hn hm hp h1 hg
    · cases h2 : inB up 0 6
      · exact says_btf width up a b n m cap cap' f t _ hf ht hn hm hp h1 h2 hg
      · exact says_btt width up a b n m cap cap' f t _ hf ht hn hm hp h1 h2 hg
theorem frame_own : ownKnob Tryd.prog.godebug = none := by kernel_rfl
theorem frame_laid : laidOutB Tryd.prog = true := by kernel_rfl
theorem frame_et : Tryd.prog.globalNamed "errors.errorType" = some 0 := by kernel_rfl
theorem frame_rt : (Tryd.prog.cutTypes.find? (·.1 == "internal/reflectlite.rtype")).map (·.2) = some 65 := by kernel_rfl
theorem frame_oneRow : ((List.range 107).filter fun t => Tryd.prog.rowNamed t [101, 114, 114, 111, 114]) = [26] := by kernel_rfl
theorem frame_size : Tryd.prog.types.size = 107 := by kernel_rfl
theorem handle_of_laid {W : World} (h : laidMetH Tryd.prog Rows.pathsSaysRow.laid W) : Handle W := by
  have h' : laidMet Tryd.prog [] W ∧ handlesMet Tryd.prog Rows.pathsSaysRow.laid W := h
  obtain ⟨name, u, ty, e1, e2, e3, e4, e5⟩ := h'.2 _ (List.mem_singleton.2 rfl)
  have en : name = [101, 114, 114, 111, 114] := (Option.some.inj e1).symm
  subst en
  obtain rfl := Option.some.inj (frame_rt.symm.trans e2)
  have hm : ty ∈ (List.range 107).filter fun t => Tryd.prog.rowNamed t [101, 114, 114, 111, 114] := List.mem_filter.2 ⟨List.mem_range.2 (by rw [← frame_size]; exact e3), e4⟩
  rw [frame_oneRow] at hm
  obtain rfl := List.mem_singleton.1 hm
  have hh : typeHandle Tryd.prog 26 = .pointer (some ⟨1, 26, none⟩) := by kernel_rfl
  rw [hh] at e5
  unfold Handle
  simpa using World.var?_cell frame_et e5 0
noncomputable def laidWorld (os : Os) : World :=
  let w0 := World.holding Tryd.prog os ⟨#[], #[], []⟩
  { w0 with heap := w0.heap.modify 0 fun
      | .cells _ t frozen => .cells #[.iface 65 (.agg #[.pointer (some ⟨1, 26, none⟩)])] t frozen
      | o => o }
theorem laidWorld_met (os : Os) (args : Array Value) : laidMetH Tryd.prog Rows.pathsSaysRow.laid ((laidWorld os).forCall (fun _ _ => 0) ⟨#[], args, []⟩).memory :=
  laidMetH_of_parts (laidMet_nil _ _) (by kernel_rfl)
set_option maxRecDepth 100000 in
theorem frame_lifted (os : Os) (started : os.Started) (H : Type) (enc : TypeId × Value → H) :
    ReturnsInHanded {} Tryd.checked os 3 .any (fun w args => (Rows.pathsSaysSpec.pre enc Tryd.prog Tryd.f3 Rows.pathsSaysRow.domain false w args ∧ laidMetH Tryd.prog Rows.pathsSaysRow.laid w) ∧ sizedMet enc Tryd.prog Tryd.f3 (OpenSpec.ofChange Rows.pathsSaysSpec) false w args) (Rows.pathsSaysSpec.post enc Tryd.prog Tryd.f3 false true false false) := by
  refine returnsInHanded_of_change_and (C := Tryd.checked) (X := (fun w _ => laidMetH Tryd.prog Rows.pathsSaysRow.laid w)) (fun _ _ _ hh h => h.of_heap hh) frame_own started (by kernel_rfl) Tryd.func3
    (ChangeSpec.witness_at (enc := enc) (C := Tryd.checked) (os := os) (X := (fun w _ => laidMetH Tryd.prog Rows.pathsSaysRow.laid w)) false (laidWorld os) #[.int .i64 0, .slice none 0 0, .slice none 0 0, .int .i64 0] 8 rfl (by kernel_rfl) (by kernel_rfl) (by kernel_rfl) (by kernel_rfl) (by kernel_rfl) (laidWorld_met os _)) ?_
  intro W base args ds gs before hval0 hW hcnd _ hLaid _
  have hval : ∀ (j : Nat) t v, Tryd.f3.params[j]? = some t → args[j]? = some v → Value.okWide Tryd.prog W .any base t v := hval0
  have hW' := hW
  obtain ⟨p, q, hA0, hV, rfl, hfz, hnd⟩ := hW
  have hA : DataW.TrodAll enc Tryd.prog W 0 (fun _ => true) true Tryd.f3.params.toList args.toList ds p := hA0
  rw [Tryd.params3] at hA hval
  obtain ⟨v0, vs0, d0, ds0, p0, q0, hargs, rfl, rfl, h0, r0⟩ := trodAll_cons hA
  obtain ⟨v1, vs1, d1, ds1, p1, q1, rfl, rfl, rfl, h1, r1⟩ := trodAll_cons r0
  obtain ⟨v2, vs2, d2, ds2, p2, q2, rfl, rfl, rfl, h2, r2⟩ := trodAll_cons r1
  obtain ⟨v3, vs3, d3, ds3, p3, q3, rfl, rfl, rfl, h3, r3⟩ := trodAll_cons r2
  obtain ⟨rfl, rfl, rfl⟩ := trodAll_nil r3
  obtain rfl : args = #[v0, v1, v2, v3] := by cases args; simp_all
  obtain ⟨rfl, rfl⟩ := trodVars_none hV
  have k0 := h0
  have lt0 : ∀ x ∈ p0, x.block < W.heap.size := by obtain ⟨m, hm⟩ := k0; exact DataW.trod_lt m _ _ _ hm
  obtain ⟨a0, rfl, rfl, rfl, w0⟩ := open_int Tryd.underlying3 (hval 0 3 v0 rfl rfl) h0
  have k1 := h1
  have lt1 : ∀ x ∈ p1, x.block < W.heap.size := by obtain ⟨m, hm⟩ := k1; exact DataW.trod_lt m _ _ _ hm
  obtain ⟨a1, len1, cap1, rfl⟩ := okWide_slice Tryd.underlying22 (hval 1 22 v1 rfl rfl)
  obtain ⟨xs1, hxs1, hcap1, hmax1⟩ := open_intsAt Tryd.underlying22 Tryd.underlying3 (by kernel_rfl) h1
  have k2 := h2
  have lt2 : ∀ x ∈ p2, x.block < W.heap.size := by obtain ⟨m, hm⟩ := k2; exact DataW.trod_lt m _ _ _ hm
  obtain ⟨a2, len2, cap2, rfl⟩ := okWide_slice Tryd.underlying22 (hval 2 22 v2 rfl rfl)
  obtain ⟨xs2, hxs2, hcap2, hmax2⟩ := open_intsAt Tryd.underlying22 Tryd.underlying3 (by kernel_rfl) h2
  have k3 := h3
  have lt3 : ∀ x ∈ p3, x.block < W.heap.size := by obtain ⟨m, hm⟩ := k3; exact DataW.trod_lt m _ _ _ hm
  obtain ⟨a3, rfl, rfl, rfl, w3⟩ := open_int Tryd.underlying3 (hval 3 3 v3 rfl rfl) h3
  clear hA0 hval0
  refine (PathsSays_any a0 a1 len1 cap1 xs1 hxs1 hcap1 hmax1 a2 len2 cap2 xs2 hxs2 hcap2 hmax2 a3 W rfl rfl (handle_of_laid hLaid)).mono fun e W' ⟨he, bel⟩ => ?_
  subst he
  exact ⟨_, rfl, _, _, _, [], _, [], hW', trodAll_mk1 (shut_bool Tryd.underlying4 _), (trodAll_cons_mk (Below.trod frame_laid (by kernel_rfl) (of_decide_eq_true (by kernel_rfl)) k0 bel lt0) (trodAll_cons_mk (Below.trod frame_laid (by kernel_rfl) (of_decide_eq_true (by kernel_rfl)) k1 bel lt1) (trodAll_cons_mk (Below.trod frame_laid (by kernel_rfl) (of_decide_eq_true (by kernel_rfl)) k2 bel lt2) (trodAll_cons_mk (Below.trod frame_laid (by kernel_rfl) (of_decide_eq_true (by kernel_rfl)) k3 bel lt3) trodAll_mk0)))), rfl, bel.frame _, fun h => by cases h⟩

theorem PathsSays_over : Rows.pathsSaysRow.holds Tryd.pinned (OpenSpec.ofChange Rows.pathsSaysSpec) :=
  OpenClaim.holds_of_wide 3 Tryd.f3 rfl rfl rfl rfl rfl rfl rfl ⟨rfl, rfl, rfl, rfl, rfl⟩ rfl rfl rfl rfl rfl (by kernel_rfl) Tryd.func3 (by kernel_rfl)
    (of_decide_eq_true (by kernel_rfl)) (by unfold Func.isWrapper; first | (rw [if_pos (by decide +kernel)]; kernel_rfl) | (rw [if_neg (by decide +kernel)]; exact ⟨rfl, rfl⟩))
    (fun os started H enc _ => frame_lifted os started H enc)

theorem frame_wants : ∀ t ∈ [3, 22, 22, 3], Tryd.prog.wantsStandIn t = false := by
  intro t ht
  simp only [List.mem_cons, List.not_mem_nil, or_false] at ht
  rcases ht with rfl | rfl | rfl | rfl <;> kernel_rfl
/-- THE STATEMENT: THE TIED CARD -/
theorem PathsSays_holds : Rows.PathsSaysCardSaid :=
  Claim7.holds_tied_plain_at .later [] [.handle] true _ true
    PathsSays_over (fun _ h => by cases h) (by kernel_rfl) (fun _ h => by cases h) pathsSays_row_tie rfl ⟨rfl, rfl⟩ (by kernel_rfl) rfl
    (fun f fn hf hfn => by
      obtain rfl : f = 3 := Option.some.inj ((show Tryd.prog.funcNamed "rankmere/rankmerelaw4.PathsSays" = some 3 by kernel_rfl).symm.trans hf) |>.symm
      obtain rfl : fn = Tryd.f3 := (Option.some.inj (Tryd.func3.symm.trans hfn)).symm
      exact ⟨by kernel_rfl, fun j t ht => by
        rw [Tryd.params3] at ht
        exact frame_wants t (by have := Array.mem_of_getElem? ht; simpa using this)⟩)
    (by kernel_rfl)
end Go.Proofs.YtbojcbpmalgdlaaDoor.PathsSaysP
