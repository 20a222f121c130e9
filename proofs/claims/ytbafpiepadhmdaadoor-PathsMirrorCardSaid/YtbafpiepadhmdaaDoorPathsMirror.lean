/- It proves that rankmerelaw4.PathsMirror, called with any integer and any two lists of integers, returns true, and leaves its arguments as they were. The one condition: errors.errorType is as the program's text lays it; the card ties it. -/
import Derived.Test.YtbafpiepadhmdaaDoorMirLaw
import Derived.Test.YtbafpiepadhmdaaDoorOwn2
import Derived.Test.YtbafpiepadhmdaaDoorTold
import Derived.Test.YtbafpiepadhmdaaDoorLawIn
import Derived.Test.YtbafpiepadhmdaaDoorOpen
import Derived.Test.YtbafpiepadhmdaaDoorTie
import Derived.Test.YtbafpiepadhmdaaDoorCards
import Derived.ProofKit
import Derived.OpenShut
import Derived.ShutString
import Derived.ChangeOld
import Derived.ChangeVars
import Derived.Lib.SmallJoins
import Derived.LaidLaws
import Derived.LaidHandle
import Derived.Stop.Joined
import Derived.SevenTiedAt
import Derived.StillTailTactics
namespace Go.Proofs.YtbafpiepadhmdaaDoor.PathsMirrorP
open Go.ChangeShapes Go.WideShapes Go.ChangeAt Go.RowKit Go.Joins
open Go.ChangeMaps (open_string shut_string)
open Go.Proofs.YtbafpiepadhmdaaDoor
set_option linter.unusedVariables false
set_option linter.unusedSimpArgs false

theorem mirror_bad (width : Int) (a b : Option Addr) (n m cap cap' : Nat) (f t : List Int) (w : World) (hf : IntsAt w a n f) (ht : IntsAt w b m t) (hn : n ≤ 9223372036854775807) (hm : m ≤ 9223372036854775807) (he : pathErr width f t ≠ 0) :
    Calls Tryd.prog 4 #[.int .i64 width, .slice a n cap, .slice b m cap'] w fun e w' => e = .returned (.bool true) ∧ Below w.heap.size w w' := by
  have hA := fun w (hf : IntsAt w a n f) (ht : IntsAt w b m t) => Apart_any width a b n m cap cap' f t w hf ht hn hm
  have hv : apartV width f t = 0 := by unfold apartV; rw [if_neg he]
  rw [hv, errV_pos he] at hA
  generalize pathErr width f t = e at *
  have HF := Lib.hid hf
  have HT := Lib.hid ht
  clear hf ht he hv
  go_enter Tryd.func4, Tryd.ntmps4
  go_wp2_with fail
  go_at_call 13
  refine (pathsFact_any _).mono ?_
  rintro e w1 ⟨rfl, hb⟩
  go_wp2_with fail
  go_at_call 9
  refine (hA _ (HF.out.call hb) (HT.out.call hb)).mono ?_
  rintro e w2 ⟨rfl, hb2⟩
  go_wp2_with fail
  go_ret
  exact ⟨rfl, below_trans hb hb2⟩

/-- all but the first -/
theorem tail_at {w : World} {b o n : Nat} {l : List Int} (h : IntsAt w (some ⟨b, o, none⟩) n l) (hn : 0 < n) : IntsAt w (some ⟨b, o + 1, none⟩) (n - 1) (l.drop 1) := by
  refine ⟨by rw [List.length_drop, h.1], fun i hi => ⟨b, o + 1, rfl, ?_⟩⟩
  obtain ⟨b', o', e, hc⟩ := h.2 (i + 1) (by omega)
  obtain ⟨rfl, rfl⟩ : b = b' ∧ o = o' := by simpa using e
  rw [show o + 1 + i = o + (i + 1) by omega, hc]
  simp [List.getD, Nat.add_comm]

set_option maxRecDepth 100000 in
set_option maxHeartbeats 2000000 in
theorem mirror_good (width : Int) (a b : Option Addr) (n cap cap' : Nat) (f t : List Int) (w : World) (hf : IntsAt w a n f) (ht : IntsAt w b n t) (hc1 : n ≤ cap) (hc2 : n ≤ cap') (he : pathErr width f t = 0) (hg : Handle w) :
    Calls Tryd.prog 4 #[.int .i64 width, .slice a n cap, .slice b n cap'] w fun e w' => e = .returned (.bool true) ∧ Below w.heap.size w w' := by
  obtain ⟨hw0, hw4, hl0, hl3, hlt, hrf, hrt⟩ := pathErr_good he
  have hfl := hf.1
  have htl := ht.1
  have hn3 : n ≤ 3 := by omega
  have hn1 : 1 ≤ n := by omega
  have hfe := (riseFrom_good f (-1) hrf).1
  have hte := (riseFrom_good t (-1) hrt).1
  have hfb : ∀ i, i < n → 0 ≤ f.getD i 0 ∧ f.getD i 0 ≤ 6 := fun i hi => by
    have hm := hfe (f[i]'(by omega)) (List.getElem_mem _)
    have e : f.getD i 0 = f[i]'(by omega) := by simp [List.getD, show i < f.length by omega]
    rw [e]; omega
  have htb : ∀ i, i < n → 0 ≤ t.getD i 0 ∧ t.getD i 0 ≤ 6 := fun i hi => by
    have hm := hte (t[i]'(by omega)) (List.getElem_mem _)
    have e : t.getD i 0 = t[i]'(by omega) := by simp [List.getD, show i < t.length by omega]
    rw [e]; omega
  obtain ⟨bf, of, rfl, hbf, hcf⟩ := hf.some (by omega)
  obtain ⟨bt, ot, rfl, hbt, hct⟩ := ht.some (by omega)
  have hA := Lib.hid (fun w (hf : IntsAt w (some ⟨bf, of, none⟩) n f) (ht : IntsAt w (some ⟨bt, ot, none⟩) n t) => Apart_any width (some ⟨bf, of, none⟩) (some ⟨bt, ot, none⟩) n n cap cap' f t w hf ht (by omega) (by omega))
  have hR := Lib.hid (fun w (hf : IntsAt w (some ⟨bf, of + 1, none⟩) (n - 1) (f.drop 1)) (ht : IntsAt w (some ⟨bt, ot + 1, none⟩) (n - 1) (t.drop 1)) => Apart_any width (some ⟨bf, of + 1, none⟩) (some ⟨bt, ot + 1, none⟩) (n - 1) (n - 1) (cap - 1) (cap' - 1) (f.drop 1) (t.drop 1) w hf ht (by omega) (by omega))
  have hbd := apart_bd width f t
  have hbr := apart_bd width (f.drop 1) (t.drop 1)
  have hM := mir_law he hfl
  rw [he, errV_zero] at hA
  obtain ⟨d, hd⟩ : ∃ d, d = apartV width f t := ⟨_, rfl⟩
  rw [← hd] at hA hbd
  have HD := Lib.hid hd
  have HM := Lib.hid hM
  have HF := Lib.hid hf
  have HT := Lib.hid ht
  have HFB := Lib.hid hfb
  have HTB := Lib.hid htb
  have HCF := Lib.hid hcf
  have HCT := Lib.hid hct
  have HG := Lib.hid hg
  obtain ⟨hb1, hb2⟩ := hbd
  obtain ⟨hb3, hb4⟩ := hbr
  obtain ⟨ii, hi, hz0, hz1, hz2⟩ := info_parts info_int
  have hnw : IntKind.i64.wrap ((n : Int) - 1) = (n : Int) - 1 := IntWalk.i64_in _ (by omega)
  clear hf ht hfb htb hcf hct hd hfe hte hrf hrt he hlt hl0 hl3 hfl htl hM hg
  go_enter Tryd.func4, Tryd.ntmps4
  go_wp2_with fail
  go_at_call 13
  refine (pathsFact_any _).mono ?_
  rintro e w1 ⟨rfl, hb⟩
  go_wp2_with fail
  go_at_call 9
  refine (hA.out _ (HF.out.call hb) (HT.out.call hb)).mono ?_
  rintro e w2 ⟨rfl, hbb⟩
  have hB2 := below_trans hb hbb
  clear hb hbb hA
  go_wp2_with fail
  go_loopg [10, 11, 12] (n + 1) (fun g va vb i wr => ∃ k : Nat, k ≤ n ∧ n - k < g ∧ i = .int .i64 ((n : Int) - 1 - k) ∧ Two2 wr w.heap.size va (mirL t n k) vb (mirL f n k) ∧ Below w.heap.size w wr)
  case atStart => exact ⟨0, by omega, by omega, by go_num, by simpa [mirL] using Two2.nil w2 w.heap.size, hB2⟩
  case round =>
    obtain ⟨k, hk, hg, rfl, hT2, hbel⟩ := hrel
    have HT2 := Lib.hid hT2
    have hsz := hbel.size
    clear hT2 hB2
    by_cases hlt : k < n
    · obtain ⟨q, hq⟩ : ∃ q, q = n - 1 - k := ⟨_, rfl⟩
      have hqi : (n : Int) - 1 - k = (q : Int) := by omega
      have hqn : q < n := by omega
      have hq0 : (0 : Int) ≤ q := by omega
      have hq1 : (q : Int) < n := by omega
      have hcf := HCF.out q hqn
      have hct := HCT.out q hqn
      rw [← hbel.cell (p := ⟨bf, of + q, none⟩) hbf] at hcf
      rw [← hbel.cell (p := ⟨bt, ot + q, none⟩) hbt] at hct
      obtain ⟨fi1, fi2⟩ := HFB.out q hqn
      obtain ⟨tj1, tj2⟩ := HTB.out q hqn
      obtain ⟨fi, hfi⟩ : ∃ q', q' = f.getD q 0 := ⟨_, rfl⟩
      obtain ⟨tj, htj⟩ : ∃ q', q' = t.getD q 0 := ⟨_, rfl⟩
      rw [← hfi] at hcf fi1 fi2
      rw [← htj] at hct tj1 tj2
      have HFS := Lib.hid (show mirL f n k ++ [6 - fi] = mirL f n (k + 1) by rw [mirL_succ, ← hq, hfi])
      have HTS := Lib.hid (show mirL t n k ++ [6 - tj] = mirL t n (k + 1) by rw [mirL_succ, ← hq, htj])
      have HQ := Lib.hid hq
      rw [hqi]
      have hw1 : IntKind.i64.wrap (6 - fi) = 6 - fi := IntWalk.i64_in _ (by omega)
      have hw2 : IntKind.i64.wrap (6 - tj) = 6 - tj := IntWalk.i64_in _ (by omega)
      have hw3 : IntKind.i64.wrap ((q : Int) - 1) = (q : Int) - 1 := IntWalk.i64_in _ (by omega)
      clear hfi htj hq hqi
      have la := Lib.hid (mirL_len t n k)
      have lb := Lib.hid (mirL_len f n k)
      go_wp2_with (first
        | (at_builtin; refine wpList_append_own2 (o := ⟨some 44, _, _, _, _, _⟩) rfl _ _ 22 rfl w.heap.size 3 ii (.int .i64 0) 8 Tryd.underlying22 hi hz0 hz1 hz2 rfl _ (mirL t n k).length ((mirL t n k).map (Value.int .i64)) rfl (World.ownsRow.alloc HT2.out.own1 _) ⟨wr.heap.size, 0, none⟩ 1 1 [.int .i64 (6 - tj)] rfl rfl (fun j u h => by obtain ⟨_, e, h2⟩ := one_new wr _ 3 j u h; cases e; exact h2) (one_int _ _) (by rw [la.out]; unfold maxLen; omega) (by rw [la.out]; omega) (le_alloc hsz _) ?_; intro va2 w3 hown3 hgrow3 hk3
           have HT3 := Lib.hid ((HT2.out.call ((Below.refl _ wr).alloc (Nat.le_refl _) (.cells #[.int .i64 (6 - tj)] 3))).grow (OwnInts.snoc rfl hown3) hgrow3 (fun k hk => by have := hk3 k hk; exact this))
           have hb3 : Below w.heap.size w w3 := (hbel.alloc hsz _).trans (grown_below hgrow3 (le_alloc hsz _) (fun k hk => (HT2.out.own1.lt k hk).1))
           have hsz3 := hb3.size
           have hcf3 : w3.cell? ⟨bf, of + q, none⟩ = some (.int .i64 fi) := by rw [hb3.cell (p := ⟨bf, of + q, none⟩) hbf, ← hbel.cell (p := ⟨bf, of + q, none⟩) hbf]; exact hcf
           clear hown3 hgrow3 hk3)
        | (at_builtin; refine wpList_append_own2 (o := ⟨some 52, _, _, _, _, _⟩) rfl _ _ 22 rfl w.heap.size 3 ii (.int .i64 0) 8 Tryd.underlying22 hi hz0 hz1 hz2 rfl _ (mirL f n k).length ((mirL f n k).map (Value.int .i64)) rfl (World.ownsRow.alloc HT3.out.own2 _) ⟨w3.heap.size, 0, none⟩ 1 1 [.int .i64 (6 - fi)] rfl rfl (fun j u h => by obtain ⟨_, e, h2⟩ := one_new w3 _ 3 j u h; cases e; exact h2) (one_int _ _) (by rw [lb.out]; unfold maxLen; omega) (by rw [lb.out]; omega) (le_alloc hsz3 _) ?_; intro vb2 w4 hown4 hgrow4 hk4
           have HT4 := Lib.hid ((HT3.out.symm.call ((Below.refl _ w3).alloc (Nat.le_refl _) (.cells #[.int .i64 (6 - fi)] 3))).grow (OwnInts.snoc rfl hown4) hgrow4 (fun k hk => by have := hk4 k hk; exact this)).symm
           have hb4 : Below w.heap.size w w4 := (hb3.alloc hsz3 _).trans (grown_below hgrow4 (le_alloc hsz3 _) (fun k hk => (HT3.out.own2.lt k hk).1))
           clear hown4 hgrow4 hk4))
      rw [HTS.out, HFS.out] at HT4
      go_roundg (n - k)
      case measure => omega
      case rel => exact ⟨k + 1, by omega, by omega, by have := HQ.out; go_num, HT4.out, hb4⟩
    · obtain rfl : k = n := by omega
      have hneg : (k : Int) - 1 - k = -1 := by omega
      rw [hneg]
      obtain ⟨a2, cap2, rfl, ha1, ha2, ha3, hra⟩ := HT2.out.own1.shape
      obtain ⟨b2, capb2, rfl, hb1', hb2', hb3', hrb⟩ := HT2.out.own2.shape
      rw [mirL_len] at hra hrb ⊢
      rw [mirL_len]
      have hAp := Apart_any width a2 b2 k k cap2 capb2 (mirL t k k) (mirL f k k) wr hra hrb (by omega) (by omega)
      rw [HM.out.err, HM.out.val, errV_zero, ← HD.out] at hAp
      clear hra hrb ha3 hb3'
      go_wp2_with fail
      go_at_call 9
      refine hAp.mono ?_
      rintro e w5 ⟨rfl, hb5⟩
      have hB5 := below_trans hbel hb5
      have hR5 := Lib.hid (fun W (hb : Below w5.heap.size w5 W) => hR.out W (tail_at (HF.out.call (below_trans hB5 hb)) (by omega)) (tail_at (HT.out.call (below_trans hB5 hb)) (by omega)))
      have HG5 := Lib.hid (HG.out.call hB5)
      have hc1' : (1 : Int) ≤ k := by omega
      have hc0 := HCF.out 0 (by omega)
      have hct0 := HCT.out 0 (by omega)
      rw [← hB5.cell (p := ⟨bf, of + 0, none⟩) hbf, Nat.add_zero] at hc0
      rw [← hB5.cell (p := ⟨bt, ot + 0, none⟩) hbt, Nat.add_zero] at hct0
      by_cases hk1 : k = 1
      · subst hk1
        obtain ⟨r1, r2⟩ := HM.out.one rfl
        have hR1 := Lib.hid (fun a b W => Apart_any width a b 0 0 (cap - 1) (cap' - 1) (f.drop 1) (t.drop 1) W ⟨by rw [List.length_drop, HF.out.1], fun i hi => absurd hi (Nat.not_lt_zero i)⟩ ⟨by rw [List.length_drop, HT.out.1], fun i hi => absurd hi (Nat.not_lt_zero i)⟩ (by omega) (by omega))
        rw [r1, r2, errV_pos (by decide)] at hR1
        clear hAp hb5 r1 r2 hR5
        go_wp2_with fail
        refine wp_region_quiet (C := Cls w5.heap.size w5) (by kernel_rfl) (by kernel_rfl) Cls.start ?_
        repeat
          (refine wpQuiet_step (fun K hK => ?_)
           go_simp
           first
             | (refine hK _ ?_; clear hK K)
             | (apply Exists.intro
                refine ⟨fun w' hC => ?_, hK _ ?_⟩
                · (obtain ⟨hr, hr2⟩ := hC.rules
                   first
                     | (go_at_call 9; exact Cls.call hC (Nat.le_refl _) (hR1.out _ _ _))
                     | (go_simp; done)
                     | (go_simp; rfl))
                clear hK K))
        refine wpQuiet_nil ?_
        intro w6 hw6
        have hb6 : Below w5.heap.size w5 w6 := hw6
        have hE := EError_any 5 5 w6 (HG5.out.call hb6)
        rw [errV_pos (by decide)] at hE
        go_wp2_with fail
        all_goals
          go_at_call 6
          refine hE.mono ?_
          rintro e w7 ⟨rfl, hb7⟩
          go_wp2_with fail
          go_ret
          exact ⟨rfl, below_trans hB5 (below_trans hb6 hb7)⟩
      · have hk1b : ((k : Int) == 1) = false := by simp; omega
        have hcn : ¬ cap = 1 := by omega
        have hcn' : ¬ cap' = 1 := by omega
        rw [HM.out.rest hk1, errV_zero] at hR5
        obtain ⟨r, hr⟩ : ∃ r, r = apartV width (f.drop 1) (t.drop 1) := ⟨_, rfl⟩
        rw [← hr] at hR5 hb3 hb4
        obtain ⟨fi, hfi⟩ : ∃ q', q' = f.getD 0 0 := ⟨_, rfl⟩
        obtain ⟨tj, htj⟩ : ∃ q', q' = t.getD 0 0 := ⟨_, rfl⟩
        rw [← hfi] at hc0
        rw [← htj] at hct0
        obtain ⟨fi1, fi2⟩ := HFB.out 0 (by omega)
        obtain ⟨tj1, tj2⟩ := HTB.out 0 (by omega)
        rw [← hfi] at fi1 fi2
        rw [← htj] at tj1 tj2
        have hkp : (0 : Int) < k := by omega
        have hkn : 0 < k := by omega
        have hkn' : ¬ k = 0 := by omega
        by_cases hlt0 : tj < fi
        · have hd0 : d = 0 := by rw [HD.out]; exact HM.out.low hk1 (by rw [← hfi, ← htj]; exact hlt0)
          subst hd0
          clear hAp hb5 hfi htj hr
          go_wp2_with fail
          refine wp_region_quiet (C := Cls w5.heap.size w5) (by kernel_rfl) (by kernel_rfl) Cls.start ?_
          repeat
            (refine wpQuiet_step (fun K hK => ?_)
             go_simp
             first
               | (refine hK _ ?_; clear hK K)
               | (apply Exists.intro
                  refine ⟨fun w' hC => ?_, hK _ ?_⟩
                  · (obtain ⟨hr, hr2⟩ := hC.rules
                     first
                       | (go_at_call 9; exact Cls.call hC (Nat.le_refl _) (hR5.out _ hC))
                       | (go_simp; done)
                       | (go_simp; rfl))
                  clear hK K))
          refine wpQuiet_nil ?_
          intro w6 hw6
          have hb6 : Below w5.heap.size w5 w6 := hw6
          have hz0 := hb6.cell (p := ⟨bf, of, none⟩) (World.block_lt_of_cell? _ _ hc0)
          have hz1 := hb6.cell (p := ⟨bt, ot, none⟩) (World.block_lt_of_cell? _ _ hct0)
          rw [hc0] at hz0
          rw [hct0] at hz1
          have z1 := World.block_lt_of_cell? _ _ hz0
          have z2 := World.block_lt_of_cell? _ _ hz1
          dsimp only at z1 z2
          go_wp2_with fail
          refine wp_region_quiet (C := Cls w6.heap.size w6) (by kernel_rfl) (by kernel_rfl) Cls.start ?_
          repeat
            (refine wpQuiet_step (fun K hK => ?_)
             go_simp
             first
               | (refine hK _ ?_; clear hK K)
               | (apply Exists.intro
                  refine ⟨fun w' hC => ?_, hK _ ?_⟩
                  · (obtain ⟨hr, hr2⟩ := hC.rules
                     first
                       | (fail)
                       | (go_simp; done)
                       | (go_simp; rfl))
                  clear hK K))
          refine wpQuiet_nil ?_
          intro w7 hw7
          have hB7 := below_trans (below_trans hB5 hb6) hw7
          go_wp2_with fail
          go_ret
          exact ⟨rfl, hB7⟩
        · have hle0 : fi ≤ tj := by omega
          obtain ⟨x1, x2, x3, x4⟩ := HM.out.high hk1 (by rw [← hfi, ← htj]; exact hle0)
          rw [← hfi, ← htj] at x1 x2 x3 x4
          rw [← HD.out, ← hr] at x2
          have hwy := Lib.hid (fun W => Ways_any width (tj - fi) W)
          rw [x1, errV_zero] at hwy
          obtain ⟨y, hy⟩ : ∃ y, y = waysV width (tj - fi) := ⟨_, rfl⟩
          rw [← hy] at x2 x3 x4 hwy
          have hwt : IntKind.i64.wrap (tj - fi) = tj - fi := IntWalk.i64_in _ (by omega)
          have hry := bd_mul (a := r) (b := y) (B := 100000000) (C := 210) (by omega) hb4 (by omega) x4
          obtain ⟨p, hp⟩ : ∃ p, p = r * y := ⟨_, rfl⟩
          rw [← hp] at x2 hry
          have hwp : IntKind.i64.wrap (r * y) = p := by rw [← hp]; exact IntWalk.i64_in _ (by omega)
          clear hAp hb5 hfi htj hr hy hp x1 hry
          go_wp2_with fail
          refine wp_region_quiet (C := Cls w5.heap.size w5) (by kernel_rfl) (by kernel_rfl) Cls.start ?_
          repeat
            (refine wpQuiet_step (fun K hK => ?_)
             go_simp
             first
               | (refine hK _ ?_; clear hK K)
               | (apply Exists.intro
                  refine ⟨fun w' hC => ?_, hK _ ?_⟩
                  · (obtain ⟨hr, hr2⟩ := hC.rules
                     first
                       | (go_at_call 9; exact Cls.call hC (Nat.le_refl _) (hR5.out _ hC))
                       | (go_simp; done)
                       | (go_simp; rfl))
                  clear hK K))
          refine wpQuiet_nil ?_
          intro w6 hw6
          have hb6 : Below w5.heap.size w5 w6 := hw6
          have hz0 := hb6.cell (p := ⟨bf, of, none⟩) (World.block_lt_of_cell? _ _ hc0)
          have hz1 := hb6.cell (p := ⟨bt, ot, none⟩) (World.block_lt_of_cell? _ _ hct0)
          rw [hc0] at hz0
          rw [hct0] at hz1
          have z1 := World.block_lt_of_cell? _ _ hz0
          have z2 := World.block_lt_of_cell? _ _ hz1
          dsimp only at z1 z2
          go_wp2_with fail
          refine wp_region_quiet (C := Cls w6.heap.size w6) (by kernel_rfl) (by kernel_rfl) Cls.start ?_
          repeat
            (refine wpQuiet_step (fun K hK => ?_)
             go_simp
             first
               | (refine hK _ ?_; clear hK K)
               | (apply Exists.intro
                  refine ⟨fun w' hC => ?_, hK _ ?_⟩
                  · (obtain ⟨hr, hr2⟩ := hC.rules
                     first
                       | (fail)
                       | (go_simp; done)
                       | (go_simp; rfl))
                  clear hK K))
          refine wpQuiet_nil ?_
          intro w7 hw7
          obtain ⟨hcc7, hff7⟩ := hw7.rules
          go_wp2_with fail
          refine wp_region_quiet (C := Cls w6.heap.size w7) (by kernel_rfl) (by kernel_rfl) Cls.start ?_
          repeat
            (refine wpQuiet_step (fun K hK => ?_)
             go_simp
             first
               | (refine hK _ ?_; clear hK K)
               | (apply Exists.intro
                  refine ⟨fun w' hC => ?_, hK _ ?_⟩
                  · (obtain ⟨hr, hr2⟩ := hC.rules
                     first
                       | (go_at_call 12; exact Cls.call hC hw7.size (hwy.out _))
                       | (go_simp; done)
                       | (go_simp; rfl))
                  clear hK K))
          refine wpQuiet_nil ?_
          intro w8 hw8
          have hB8 := below_trans (below_trans hB5 hb6) (hw7.trans hw8)
          go_wp2_with fail
          go_ret
          exact ⟨rfl, hB8⟩

theorem PathsMirror_any (width : Int) (a : Option Addr) (n cap : Nat) (f : List Int) {w1 : World} (hf : IntsAt w1 a n f) (hc1 : n ≤ cap) (hm1 : cap ≤ 9223372036854775807 ∧ (a = none → cap = 0)) (b : Option Addr) (m cap' : Nat) (t : List Int) {w2 : World} (ht : IntsAt w2 b m t) (hc2 : m ≤ cap') (hm2 : cap' ≤ 9223372036854775807 ∧ (b = none → cap' = 0)) (w : World) (e1 : w1 = w) (e2 : w2 = w) (hg : Handle w) :
    Calls Tryd.prog 4 #[.int .i64 width, .slice a n cap, .slice b m cap'] w fun e w' => e = .returned (.bool true) ∧ Below w.heap.size w w' := by
  subst e1
  subst e2
  by_cases he : pathErr width f t = 0
  · obtain ⟨_, _, _, _, hl, _, _⟩ := pathErr_good he
    have h1 := hf.1
    have h2 := ht.1
    obtain rfl : m = n := by omega
    exact mirror_good width a b m cap cap' f t w2 hf ht hc1 hc2 he hg
  · exact mirror_bad width a b n m cap cap' f t w2 hf ht (by omega) (by omega) he
theorem frame_own : ownKnob Tryd.prog.godebug = none := by kernel_rfl
theorem frame_laid : laidOutB Tryd.prog = true := by kernel_rfl
theorem frame_et : Tryd.prog.globalNamed "errors.errorType" = some 0 := by kernel_rfl
theorem frame_rt : (Tryd.prog.cutTypes.find? (·.1 == "internal/reflectlite.rtype")).map (·.2) = some 66 := by kernel_rfl
theorem frame_oneRow : ((List.range 108).filter fun t => Tryd.prog.rowNamed t [101, 114, 114, 111, 114]) = [26] := by kernel_rfl
theorem frame_size : Tryd.prog.types.size = 108 := by kernel_rfl
theorem handle_of_laid {W : World} (h : laidMetH Tryd.prog Rows.pathsMirrorRow.laid W) : Handle W := by
  have h' : laidMet Tryd.prog [] W ∧ handlesMet Tryd.prog Rows.pathsMirrorRow.laid W := h
  obtain ⟨name, u, ty, e1, e2, e3, e4, e5⟩ := h'.2 _ (List.mem_singleton.2 rfl)
  have en : name = [101, 114, 114, 111, 114] := (Option.some.inj e1).symm
  subst en
  obtain rfl := Option.some.inj (frame_rt.symm.trans e2)
  have hm : ty ∈ (List.range 108).filter fun t => Tryd.prog.rowNamed t [101, 114, 114, 111, 114] := List.mem_filter.2 ⟨List.mem_range.2 (by rw [← frame_size]; exact e3), e4⟩
  rw [frame_oneRow] at hm
  obtain rfl := List.mem_singleton.1 hm
  have hh : typeHandle Tryd.prog 26 = .pointer (some ⟨1, 26, none⟩) := by kernel_rfl
  rw [hh] at e5
  unfold Handle
  simpa using World.var?_cell frame_et e5 0
noncomputable def laidWorld (os : Os) : World :=
  let w0 := World.holding Tryd.prog os ⟨#[], #[], []⟩
  { w0 with heap := w0.heap.modify 0 fun
      | .cells _ t frozen => .cells #[.iface 66 (.agg #[.pointer (some ⟨1, 26, none⟩)])] t frozen
      | o => o }
theorem laidWorld_met (os : Os) (args : Array Value) : laidMetH Tryd.prog Rows.pathsMirrorRow.laid ((laidWorld os).forCall (fun _ _ => 0) ⟨#[], args, []⟩).memory :=
  laidMetH_of_parts (laidMet_nil _ _) (by kernel_rfl)
set_option maxRecDepth 100000 in
theorem frame_lifted (os : Os) (started : os.Started) (H : Type) (enc : TypeId × Value → H) :
    ReturnsInHanded {} Tryd.checked os 4 .any (fun w args => (Rows.pathsMirrorSpec.pre enc Tryd.prog Tryd.f4 Rows.pathsMirrorRow.domain false w args ∧ laidMetH Tryd.prog Rows.pathsMirrorRow.laid w) ∧ sizedMet enc Tryd.prog Tryd.f4 (OpenSpec.ofChange Rows.pathsMirrorSpec) false w args) (Rows.pathsMirrorSpec.post enc Tryd.prog Tryd.f4 false true false false) := by
  refine returnsInHanded_of_change_and (C := Tryd.checked) (X := (fun w _ => laidMetH Tryd.prog Rows.pathsMirrorRow.laid w)) (fun _ _ _ hh h => h.of_heap hh) frame_own started (by kernel_rfl) Tryd.func4
    (ChangeSpec.witness_at (enc := enc) (C := Tryd.checked) (os := os) (X := (fun w _ => laidMetH Tryd.prog Rows.pathsMirrorRow.laid w)) false (laidWorld os) #[.int .i64 0, .slice none 0 0, .slice none 0 0] 8 rfl (by kernel_rfl) (by kernel_rfl) (by kernel_rfl) (by kernel_rfl) (by kernel_rfl) (laidWorld_met os _)) ?_
  intro W base args ds gs before hval0 hW hcnd _ hLaid _
  have hval : ∀ (j : Nat) t v, Tryd.f4.params[j]? = some t → args[j]? = some v → Value.okWide Tryd.prog W .any base t v := hval0
  have hW' := hW
  obtain ⟨p, q, hA0, hV, rfl, hfz, hnd⟩ := hW
  have hA : DataW.TrodAll enc Tryd.prog W 0 (fun _ => true) true Tryd.f4.params.toList args.toList ds p := hA0
  rw [Tryd.params4] at hA hval
  obtain ⟨v0, vs0, d0, ds0, p0, q0, hargs, rfl, rfl, h0, r0⟩ := trodAll_cons hA
  obtain ⟨v1, vs1, d1, ds1, p1, q1, rfl, rfl, rfl, h1, r1⟩ := trodAll_cons r0
  obtain ⟨v2, vs2, d2, ds2, p2, q2, rfl, rfl, rfl, h2, r2⟩ := trodAll_cons r1
  obtain ⟨rfl, rfl, rfl⟩ := trodAll_nil r2
  obtain rfl : args = #[v0, v1, v2] := by cases args; simp_all
  obtain ⟨rfl, rfl⟩ := trodVars_none hV
  have k0 := h0
  have lt0 : ∀ x ∈ p0, x.block < W.heap.size := by obtain ⟨m, hm⟩ := k0; exact DataW.trod_lt m _ _ _ hm
  obtain ⟨a0, rfl, rfl, rfl, w0⟩ := open_int Tryd.underlying3 (hval 0 3 v0 rfl rfl) h0
  have k1 := h1
  have lt1 : ∀ x ∈ p1, x.block < W.heap.size := by obtain ⟨m, hm⟩ := k1; exact DataW.trod_lt m _ _ _ hm
  obtain ⟨a1, len1, cap1, rfl⟩ := okWide_slice Tryd.underlying22 (hval 1 22 v1 rfl rfl)
  obtain ⟨xs1, hxs1, hcap1, hmax1⟩ := open_intsAt Tryd.underlying22 Tryd.underlying3 (by kernel_rfl) h1
  have k2 := h2
  have lt2 : ∀ x ∈ p2, x.block < W.heap.size := by obtain ⟨m, hm⟩ := k2; exact DataW.trod_lt m _ _ _ hm
  obtain ⟨a2, len2, cap2, rfl⟩ := okWide_slice Tryd.underlying22 (hval 2 22 v2 rfl rfl)
  obtain ⟨xs2, hxs2, hcap2, hmax2⟩ := open_intsAt Tryd.underlying22 Tryd.underlying3 (by kernel_rfl) h2
  clear hA0 hval0
  refine (PathsMirror_any a0 a1 len1 cap1 xs1 hxs1 hcap1 hmax1 a2 len2 cap2 xs2 hxs2 hcap2 hmax2 W rfl rfl (handle_of_laid hLaid)).mono fun e W' ⟨he, bel⟩ => ?_
  subst he
  exact ⟨_, rfl, _, _, _, [], _, [], hW', trodAll_mk1 (shut_bool Tryd.underlying4 _), (trodAll_cons_mk (Below.trod frame_laid (by kernel_rfl) (of_decide_eq_true (by kernel_rfl)) k0 bel lt0) (trodAll_cons_mk (Below.trod frame_laid (by kernel_rfl) (of_decide_eq_true (by kernel_rfl)) k1 bel lt1) (trodAll_cons_mk (Below.trod frame_laid (by kernel_rfl) (of_decide_eq_true (by kernel_rfl)) k2 bel lt2) trodAll_mk0))), rfl, bel.frame _, fun h => by cases h⟩

theorem PathsMirror_over : Rows.pathsMirrorRow.holds Tryd.pinned (OpenSpec.ofChange Rows.pathsMirrorSpec) :=
  OpenClaim.holds_of_wide 4 Tryd.f4 rfl rfl rfl rfl rfl rfl rfl ⟨rfl, rfl, rfl, rfl, rfl⟩ rfl rfl rfl rfl rfl (by kernel_rfl) Tryd.func4 (by kernel_rfl)
    (of_decide_eq_true (by kernel_rfl)) (by unfold Func.isWrapper; first | (rw [if_pos (by decide +kernel)]; kernel_rfl) | (rw [if_neg (by decide +kernel)]; exact ⟨rfl, rfl⟩))
    (fun os started H enc _ => frame_lifted os started H enc)

theorem frame_wants : ∀ t ∈ [3, 22, 22], Tryd.prog.wantsStandIn t = false := by
  intro t ht
  simp only [List.mem_cons, List.not_mem_nil, or_false] at ht
  rcases ht with rfl | rfl | rfl <;> kernel_rfl
/-- THE STATEMENT: THE TIED CARD -/
theorem PathsMirror_holds : Rows.PathsMirrorCardSaid :=
  Claim7.holds_tied_plain_at .later [] [.handle] true _ true
    PathsMirror_over (fun _ h => by cases h) (by kernel_rfl) (fun _ h => by cases h) pathsMirror_row_tie rfl ⟨rfl, rfl⟩ (by kernel_rfl) rfl
    (fun f fn hf hfn => by
      obtain rfl : f = 4 := Option.some.inj ((show Tryd.prog.funcNamed "rankmere/rankmerelaw4.PathsMirror" = some 4 by kernel_rfl).symm.trans hf) |>.symm
      obtain rfl : fn = Tryd.f4 := (Option.some.inj (Tryd.func4.symm.trans hfn)).symm
      exact ⟨by kernel_rfl, fun j t ht => by
        rw [Tryd.params4] at ht
        exact frame_wants t (by have := Array.mem_of_getElem? ht; simpa using this)⟩)
    (by kernel_rfl)
end Go.Proofs.YtbafpiepadhmdaaDoor.PathsMirrorP
