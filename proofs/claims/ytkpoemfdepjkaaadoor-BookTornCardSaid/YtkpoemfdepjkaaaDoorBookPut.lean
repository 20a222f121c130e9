/- What is put down: any steps. -/
import Derived.Test.YtkpoemfdepjkaaaDoorBookAdd
namespace Go.Proofs.YtkpoemfdepjkaaaDoor
open Go.RowKit
set_option linter.unusedVariables false
set_option linter.unusedSimpArgs false

/-- a book's rows and lines -/
abbrev BS := List (List Int) × List ByteArray
def zeros4 : List (List Int) := List.replicate 4 (List.replicate 4 0)
def bSet (s : BS) (i j n : Int) : BS := if setErr i j n s.2.length = 0 then (putE s.1 i.toNat j.toNat n, s.2 ++ [lineOf wordS [i, j, n]]) else s
def bAdd (s : BS) (i j n : Int) : BS := if addErr i j n s.2.length = 0 then (addTo s.1 i.toNat j.toNat n 4, s.2 ++ [lineOf wordA [i, j, n]]) else s
/-- one step -/
def bStep (s : BS) (l : List Int) : BS := if l.length = 4 then (if l.getD 0 0 = 0 then bSet s (l.getD 1 0) (l.getD 2 0) (l.getD 3 0) else bAdd s (l.getD 1 0) (l.getD 2 0) (l.getD 3 0)) else s
def bRun (steps : List (List Int)) : Nat → BS
  | 0 => (zeros4, [])
  | k + 1 => bStep (bRun steps k) (steps.getD k [])

/-- a book, in any case -/
theorem Set_any (w : World) (B Bk G : Nat) (vs : List Value) (vl : Value) (s : BS) (hB : BookAt w B Bk G vs vl s.1 s.2) (hBw : B ≤ w.heap.size) (hT : Tab B w) (i j n : Int) :
    Calls Tryd.prog 16 #[.pointer (some ⟨Bk, 0, none⟩), .int .i64 i, .int .i64 j, .int .i64 n] w fun e w' => e = .returned (errV (setErr i j n s.2.length)) ∧ BookDone w w' B Bk G vs vl (bSet s i j n).1 (bSet s i j n).2 := by
  by_cases he : setErr i j n s.2.length = 0
  · rw [show bSet s i j n = (putE s.1 i.toNat j.toNat n, s.2 ++ [lineOf wordS [i, j, n]]) from if_pos he, he]
    exact Set_good w B Bk G vs vl s.1 s.2 hB hBw hT i j n he
  · rw [show bSet s i j n = s from if_neg he]
    refine (Set_bad w B Bk G vs vl s.1 s.2 hB i j n he).mono fun e w' h => ⟨h.1, ⟨vl, hB.call h.2, fun b hb => Or.inl hb⟩, BKept.of _ _ _ h.2⟩
theorem Add_any (w : World) (B Bk G : Nat) (vs : List Value) (vl : Value) (s : BS) (hB : BookAt w B Bk G vs vl s.1 s.2) (hBw : B ≤ w.heap.size) (hT : Tab B w) (i j n : Int) :
    Calls Tryd.prog 10 #[.pointer (some ⟨Bk, 0, none⟩), .int .i64 i, .int .i64 j, .int .i64 n] w fun e w' => e = .returned (errV (addErr i j n s.2.length)) ∧ BookDone w w' B Bk G vs vl (bAdd s i j n).1 (bAdd s i j n).2 := by
  by_cases he : addErr i j n s.2.length = 0
  · rw [show bAdd s i j n = (addTo s.1 i.toNat j.toNat n 4, s.2 ++ [lineOf wordA [i, j, n]]) from if_pos he, he]
    exact Add_good w B Bk G vs vl s.1 s.2 hB hBw hT i j n he
  · rw [show bAdd s i j n = s from if_neg he]
    refine (Add_bad w B Bk G vs vl s.1 s.2 hB i j n he).mono fun e w' h => ⟨h.1, ⟨vl, hB.call h.2, fun b hb => Or.inl hb⟩, BKept.of _ _ _ h.2⟩
set_option maxRecDepth 100000 in
set_option maxHeartbeats 2000000 in
theorem put_any (a : Option Addr) (n cap : Nat) (steps : List (List Int)) (w : World) (hr : RowsAt w a n steps) (hcap : n ≤ cap) (hs : Small n steps) (hT : Tab w.heap.size w) :
    Calls Tryd.prog 7 #[.slice a n cap] w fun e w' => (∃ Bk G vs vl, e = .returned (.pointer (some ⟨Bk, 0, none⟩)) ∧ BookAt w' w.heap.size Bk G vs vl (bRun steps (min n 70)).1 (bRun steps (min n 70)).2) ∧ Below w.heap.size w w' := by
  have HR := Lib.hid hr
  have HT := Lib.hid hT
  have hn := hs.1
  have HS := Lib.hid hs.2
  clear hr hs hT
  go_enter Tryd.func7, Tryd.ntmps7
  go_wp2_with fail
  go_at_call 13
  refine (New_any _).mono ?_
  rintro e w1 ⟨Bk, G, vs, rfl, hbk, hB, hb1⟩
  have HB := Lib.hid hB
  clear hB
  go_wp2_with fail
  go_loopg [4] 72 (fun g i wr => ∃ k : Nat, k ≤ n ∧ k ≤ 70 ∧ 71 - k < g ∧ i = .int .i64 k ∧ (∃ vl, BookAt wr w.heap.size Bk G vs vl (bRun steps k).1 (bRun steps k).2) ∧ Below w.heap.size w wr)
  case atStart => exact ⟨0, by omega, by omega, by omega, rfl, ⟨_, HB.out⟩, hb1⟩
  case round =>
    clear HB hb1
    obtain ⟨k, hk, hk7, hg, rfl, ⟨vl, hBr⟩, hbel⟩ := hrel
    have HBR := Lib.hid hBr
    clear hBr
    by_cases hlt : k < n
    · have hki : (k : Int) < (n : Int) := by omega
      by_cases hlt7 : k < 70
      · have hk7i : (k : Int) < 70 := by omega
        have hk0 : (0 : Int) ≤ k := by omega
        obtain ⟨b, off, ra, rc, rfl, c1, e1, e2, e3, e4⟩ := (HR.out.call hbel).2 k hlt
        obtain ⟨l, hl⟩ : ∃ l, l = steps.getD k [] := ⟨_, rfl⟩
        rw [← hl] at c1 e1 e4
        have hll := HS.out k hlt
        rw [← hl] at hll
        have HST := Lib.hid (show bRun steps (k + 1) = bStep (bRun steps k) l from by rw [bRun, ← hl])
        have z1 := World.block_lt_of_cell? _ _ c1
        dsimp only at z1
        clear hl
        by_cases h4 : l.length = 4
        · have h4i : ((l.length : Int) != 4) = false := by simp [h4]
          rw [h4] at c1 e4
          obtain ⟨b2, o2, rfl, x0⟩ := e4.2 0 (by omega)
          obtain ⟨b2', o2', q1, x1⟩ := e4.2 1 (by omega)
          cases q1
          obtain ⟨b2', o2', q1, x2⟩ := e4.2 2 (by omega)
          cases q1
          obtain ⟨b2', o2', q1, x3⟩ := e4.2 3 (by omega)
          cases q1
          rw [Nat.add_zero] at x0
          have z2 := World.block_lt_of_cell? _ _ x0
          dsimp only at z2
          have hBsz := hbel.size
          have HA := Lib.hid (fun W (hW : Below wr.heap.size wr W) (i j n : Int) => Add_any W w.heap.size Bk G vs vl (bRun steps k) (HBR.out.call hW) (Nat.le_trans hBsz hW.size) (HT.out.call (hbel.trans (hW.mono hBsz))) i j n)
          have HSe := Lib.hid (fun W (hW : Below wr.heap.size wr W) (i j n : Int) => Set_any W w.heap.size Bk G vs vl (bRun steps k) (HBR.out.call hW) (Nat.le_trans hBsz hW.size) (HT.out.call (hbel.trans (hW.mono hBsz))) i j n)
          have HSS := Lib.hid (show bRun steps (k + 1) = if l.getD 0 0 = 0 then bSet (bRun steps k) (l.getD 1 0) (l.getD 2 0) (l.getD 3 0) else bAdd (bRun steps k) (l.getD 1 0) (l.getD 2 0) (l.getD 3 0) from by rw [HST.out, bStep, if_pos h4])
          generalize l.getD 0 0 = y0 at *
          generalize l.getD 1 0 = y1 at *
          generalize l.getD 2 0 = y2 at *
          generalize l.getD 3 0 = y3 at *
          clear h4 hll e4 e1 e2 e3 HST
          by_cases hy : y0 = 0
          · subst hy
            go_wp2_with fail
            refine wp_region_quiet_tail (C := Cls wr.heap.size wr) 10 (by kernel_rfl) (by kernel_rfl) Cls.start ?_
            simp only [List.take_succ_cons, List.take_zero, List.drop_succ_cons, List.drop_zero]
            repeat
              (refine wpQuiet_step (fun K hK => ?_)
               go_simp
               first
                 | (refine hK _ ?_; clear hK K)
                 | (apply Exists.intro
                    refine ⟨fun w' hC => ?_, hK _ ?_⟩
                    · (obtain ⟨hr, hr2⟩ := hC.rules
                       first
                         | (fail)
                         | (go_simp; done)
                         | (go_simp; rfl))
                    clear hK K))
            refine wpQuiet_nil ?_
            intro W5 hW5
            go_wp2_with fail
            go_at_call 16
            refine (HSe.out _ hW5 y1 y2 y3).mono ?_
            rintro e w6 ⟨rfl, ⟨vl', hB6, hbl⟩, hK6⟩
            have HB6 := Lib.hid (show BookAt w6 w.heap.size Bk G vs vl' (bRun steps (k + 1)).1 (bRun steps (k + 1)).2 from by rw [HSS.out, if_pos trivial]; exact hB6)
            have hB2 := (hbel.trans (hW5.mono hBsz)).trans (hK6.below (HBR.out.call hW5))
            clear hB6 hbl hK6
            go_wp2_with fail
            go_roundg (71 - k)
            case measure => omega
            case rel => exact ⟨k + 1, by omega, by omega, by omega, by go_num, ⟨vl', HB6.out⟩, hB2⟩
          · have hyb : (y0 == 0) = false := by simp [hy]
            go_wp2_with fail
            refine wp_region_quiet_tail (C := Cls wr.heap.size wr) 10 (by kernel_rfl) (by kernel_rfl) Cls.start ?_
            simp only [List.take_succ_cons, List.take_zero, List.drop_succ_cons, List.drop_zero]
            repeat
              (refine wpQuiet_step (fun K hK => ?_)
               go_simp
               first
                 | (refine hK _ ?_; clear hK K)
                 | (apply Exists.intro
                    refine ⟨fun w' hC => ?_, hK _ ?_⟩
                    · (obtain ⟨hr, hr2⟩ := hC.rules
                       first
                         | (fail)
                         | (go_simp; done)
                         | (go_simp; rfl))
                    clear hK K))
            refine wpQuiet_nil ?_
            intro W5 hW5
            go_wp2_with fail
            go_at_call 10
            refine (HA.out _ hW5 y1 y2 y3).mono ?_
            rintro e w6 ⟨rfl, ⟨vl', hB6, hbl⟩, hK6⟩
            have HB6 := Lib.hid (show BookAt w6 w.heap.size Bk G vs vl' (bRun steps (k + 1)).1 (bRun steps (k + 1)).2 from by rw [HSS.out, if_neg hy]; exact hB6)
            have hB2 := (hbel.trans (hW5.mono hBsz)).trans (hK6.below (HBR.out.call hW5))
            clear hB6 hbl hK6
            go_wp2_with fail
            go_roundg (71 - k)
            case measure => omega
            case rel => exact ⟨k + 1, by omega, by omega, by omega, by go_num, ⟨vl', HB6.out⟩, hB2⟩
        · have h4i : ((l.length : Int) != 4) = true := by simp; omega
          have HSS := Lib.hid (show bRun steps (k + 1) = bRun steps k from by rw [HST.out, bStep, if_neg h4])
          clear h4 HST e4
          go_wp2_with fail
          go_roundg (71 - k)
          case measure => omega
          case rel => exact ⟨k + 1, by omega, by omega, by omega, by go_num, ⟨vl, by rw [HSS.out]; exact HBR.out⟩, hbel⟩
      · obtain rfl : k = 70 := by omega
        go_wp2_with fail
        go_ret
        exact ⟨⟨Bk, G, vs, vl, rfl, by rw [show min n 70 = 70 by omega]; exact HBR.out⟩, hbel⟩
    · obtain rfl : n = k := by omega
      go_wp2_with fail
      go_ret
      exact ⟨⟨Bk, G, vs, vl, rfl, by rw [show min n 70 = n by omega]; exact HBR.out⟩, hbel⟩
end Go.Proofs.YtkpoemfdepjkaaaDoor
