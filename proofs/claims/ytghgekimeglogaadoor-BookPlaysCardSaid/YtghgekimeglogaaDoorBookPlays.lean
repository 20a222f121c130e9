/- It proves that rankmerelaw4.BookPlays, called with any list of lists of integers, returns true, and leaves its argument as it was. The one condition: the tables of numbers of the library and the variable of errors.As are as the program's text lays them; the card ties them. -/
import Derived.Test.YtghgekimeglogaaDoorRefAny
import Derived.Test.YtghgekimeglogaaDoorQuietAny
import Derived.Test.YtghgekimeglogaaDoorDetMod
import Derived.Test.YtghgekimeglogaaDoorESame
import Derived.Test.YtghgekimeglogaaDoorTold
import Derived.Test.YtghgekimeglogaaDoorOpen
import Derived.Test.YtghgekimeglogaaDoorTie
import Derived.Test.YtghgekimeglogaaDoorCards
import Derived.ProofKit
import Derived.OpenShut
import Derived.ShutString
import Derived.ChangeOld
import Derived.ChangeVars
import Derived.Lib.SmallJoins
import Derived.LaidLaws
import Derived.LaidMore
import Derived.Stop.Joined
import Derived.SevenTiedAt
import Derived.Lib.LaidU8
import Derived.MakeChecks
import Derived.LaidSub
import Derived.Deep.RegionHeld3
namespace Go.Proofs.YtghgekimeglogaaDoor.BookPlaysP
open Go.ChangeShapes Go.WideShapes Go.ChangeAt Go.RowKit Go.Joins
open Go.ChangeMaps (open_string shut_string)
open Go.Proofs.YtghgekimeglogaaDoor
set_option linter.unusedVariables false
set_option linter.unusedSimpArgs false

theorem tabIs_of_reads {P : Program} {W : World} {name : String} {k : IntKind} {zs : List Int} {g : Nat} {t e : TypeId} {n : Nat}
    (hg : P.globalNamed name = some g) (hty : (P.globals[g]?).map (·.type) = some t) (ht : P.underlying t = some (.array n e)) (he : P.underlying e = some (.int k)) (hce : P.cellsOf e = 1) (hct : P.cellsOf t = n)
    (h : Lib.VarReads P W name (Lib.tabData k zs)) : Lib.TabIs P W name k zs := by
  obtain ⟨g', t', cs, fuel, p, hg', ht', hvar, hd⟩ := h
  obtain rfl := Option.some.inj (hg.symm.trans hg')
  obtain rfl := Option.some.inj (hty.symm.trans ht')
  unfold Lib.TabIs
  rw [hvar, ← Lib.cells_of_tab ht he hce hct hd]
theorem ent_of {s : BS} (h : BSok s) : Ent 9972 s.1 := by
  intro i j
  by_cases hi : i < 4
  · by_cases hj : j < 4
    · have := h.ent i j hi hj
      show -9972 ≤ fn s.1 i j ∧ fn s.1 i j ≤ 9972
      omega
    · have e : (s.1.getD i []).getD j 0 = 0 := by
        have := h.sq.2 i hi
        rw [List.getD_eq_getElem?_getD, List.getElem?_eq_none (by omega)]; rfl
      rw [e]; omega
  · have e : s.1.getD i [] = [] := by
      have := h.sq.1
      rw [List.getD_eq_getElem?_getD, List.getElem?_eq_none (by omega)]; rfl
    rw [e]; simp
theorem bRun_succ (steps : List (List Int)) (k : Nat) (l : List Int) (h : l = steps.getD k []) : bRun steps (k + 1) = bStep (bRun steps k) l := by rw [bRun, ← h]
set_option maxRecDepth 100000 in
set_option maxHeartbeats 4000000 in
theorem BookPlays_any (a : Option Addr) (n cap : Nat) (steps : List (List Int)) {w' : World} (hr : RowsAt w' a n steps) (hcap : n ≤ cap) (hs : Small n steps) (w : World) (e : w' = w) (hT : Tab w.heap.size w) (hg : Handle w) :
    Calls Tryd.prog 3 #[.slice a n cap] w fun e w' => e = .returned (.bool true) ∧ Below w.heap.size w w' := by
  subst e
  have HR := Lib.hid hr
  have HT := Lib.hid hT
  have HG := Lib.hid hg
  have hn := hs.1
  have HS := Lib.hid hs.2
  clear hr hs hT hg
  go_enter Tryd.func3, Tryd.ntmps3
  go_wp2_with fail
  go_at_call 4
  refine (New_any _).mono ?_
  rintro e w1 ⟨Bk, G, vs, rfl, hbk, hB, hb1⟩
  have HB := Lib.hid hB
  clear hB
  go_wp2_with fail
  go_at_call 5
  refine (RNew_any _).mono ?_
  rintro e w2 ⟨⟨v, rfl, href⟩, hb2⟩
  have HB2 := Lib.hid (HB.out.call hb2)
  have hbk1 : Bk < w1.heap.size := HB.out.lt
  have hvs1 : ∀ i b, (vs.getD i undef).ownBlock = some b → b < w1.heap.size := HB.out.own.bound.2
  have hbel2 := below_trans hb1 hb2
  obtain ⟨ra, rc, rfl, hrc, hro⟩ := href
  have HRF := Lib.hid (show RefIs w2 w1.heap.size (refV ra rc (textOf (zeros4, ([] : List ByteArray)).2) (zeros4, ([] : List ByteArray)).2.length) (zeros4, []) from ⟨ra, rc, rfl, hrc, hro⟩)
  obtain ⟨Rb, hRb⟩ : ∃ Rb, Rb = w1.heap.size := ⟨_, rfl⟩
  have hRbX : Rb ≤ w2.heap.size := by rw [hRb]; exact hb2.size
  rw [← hRb] at hbk1 hvs1 HRF
  have HVS1 := Lib.hid hvs1
  clear HB hb1 hb2 hro hRb hvs1
  go_upto_region 3 with (fail)
  obtain ⟨X, hX⟩ : ∃ X, X = w2.heap.size := ⟨_, rfl⟩
  have hx2 : (w2.alloc (.cells #[.slice ra 4 rc, .string (textOf []), .int .i64 0] 26)).heap[X]? = some (.cells #[.slice ra 4 rc, .string (textOf []), .int .i64 0] 26 (0, 0)) := by rw [hX]; exact heap_alloc_new _ _
  have hal : Below w2.heap.size w2 (w2.alloc (.cells #[.slice ra 4 rc, .string (textOf []), .int .i64 0] 26)) := (Below.refl _ _).alloc (Nat.le_refl _) _
  have hB3 := HB2.out.call hal
  have hR3 := HRF.out.call hal
  have hbel3 := below_trans hbel2 hal
  have hXs : w'.heap.size ≤ X := by rw [hX]; exact hbel2.size
  rw [← hX]
  rw [← hX] at hRbX
  generalize w2.alloc (.cells #[.slice ra 4 rc, .string (textOf []), .int .i64 0] 26) = w3 at *
  clear HB2 HRF hal hbel2 hX w2 w1
  go_wp2_with fail
  go_loopg [5] 72 (fun g i wr => ∃ k : Nat, k ≤ n ∧ k ≤ 70 ∧ 71 - k < g ∧ i = .int .i64 k ∧ (∃ vl, BookAt wr w'.heap.size Bk G vs vl (bRun steps k).1 (bRun steps k).2) ∧ (∃ ra rc, RefIs wr Rb (refV ra rc (textOf (bRun steps k).2) (bRun steps k).2.length) (bRun steps k) ∧ wr.heap[X]? = some (.cells #[.slice ra 4 rc, .string (textOf (bRun steps k).2), .int .i64 (bRun steps k).2.length] 26 (0, 0))) ∧ Below w'.heap.size w' wr)
  case atStart => exact ⟨0, by omega, by omega, by omega, rfl, ⟨_, hB3⟩, ⟨_, _, hR3, hx2⟩, hbel3⟩
  case round =>
    clear hB3 hR3 hx2 hbel3
    obtain ⟨k, hk, hk7, hg, rfl, ⟨vl, hBr⟩, ⟨ra, rc, hRr, hXr⟩, hbel⟩ := hrel
    have hok := bRun_ok steps k
    have hRbw : Rb ≤ wr.heap.size := Nat.le_trans hRbX (Nat.le_of_lt (Array.getElem?_eq_some_iff.1 hXr).1)
    have HOK1 := Lib.hid (bRun_ok steps (k + 1))
    by_cases hlt : k < n
    · have hki : (k : Int) < (n : Int) := by omega
      by_cases hlt7 : k < 70
      · have hk7i : (k : Int) < 70 := by omega
        have hk0 : (0 : Int) ≤ k := by omega
        obtain ⟨b, off, la, lc, rfl, c1', e1, e2, e3, e4⟩ := HR.out.2 k hlt
        obtain ⟨l, hl⟩ : ∃ l, l = steps.getD k [] := ⟨_, rfl⟩
        rw [← hl] at c1' e1 e4
        have z1' : b < w'.heap.size := World.block_lt_of_cell? _ _ c1'
        have C1 := Lib.hid (fun W (h : Below w'.heap.size w' W) => (show W.cell? ⟨b, off + k, none⟩ = some (.slice la l.length lc) from by rw [h.cell (p := ⟨b, off + k, none⟩) z1']; exact c1'))
        have c1 := C1.out wr hbel
        have HST := Lib.hid (bRun_succ steps k l hl)
        obtain ⟨s, hs⟩ : ∃ s, s = bRun steps k := ⟨_, rfl⟩
        rw [← hs] at hBr hRr hXr hok HST
        obtain ⟨s1, hs1⟩ : ∃ s1, s1 = bRun steps (k + 1) := ⟨_, rfl⟩
        rw [← hs1] at HST HOK1
        have HS1 := Lib.hid hs1
        have HSS := Lib.hid hs
        have HBR := Lib.hid hBr
        have HRR := Lib.hid hRr
        have HXR := Lib.hid hXr
        have HOK := Lib.hid hok
        have x0 : wr.cell? ⟨X, 0, none⟩ = some (.slice ra 4 rc) := by simp [World.cell?, hXr]
        have x1 : wr.cell? ⟨X, 1, none⟩ = some (.string (textOf s.2)) := by simp [World.cell?, hXr]
        have x2 : wr.cell? ⟨X, 2, none⟩ = some (.int .i64 s.2.length) := by simp [World.cell?, hXr]
        have zX : X < wr.heap.size := (Array.getElem?_eq_some_iff.1 hXr).1
        have z1 := World.block_lt_of_cell? _ _ c1
        dsimp only at z1
        clear hl hs hs1 hBr hRr hXr hok
        by_cases h4 : l.length = 4
        · have h4i : ((l.length : Int) != 4) = false := by simp [h4]
          rw [h4] at c1 e4 C1
          obtain ⟨b2, o2, rfl, y0'⟩ := e4.2 0 (by omega)
          obtain ⟨b2', o2', q1, y1'⟩ := e4.2 1 (by omega)
          cases q1
          obtain ⟨b2', o2', q1, y2'⟩ := e4.2 2 (by omega)
          cases q1
          obtain ⟨b2', o2', q1, y3'⟩ := e4.2 3 (by omega)
          cases q1
          rw [Nat.add_zero] at y0'
          have z2' : b2 < w'.heap.size := World.block_lt_of_cell? _ _ y0'
          have Y := Lib.hid (fun W (h : Below w'.heap.size w' W) => (show W.cell? ⟨b2, o2, none⟩ = some (.int .i64 (l.getD 0 0)) ∧ W.cell? ⟨b2, o2 + 1, none⟩ = some (.int .i64 (l.getD 1 0)) ∧ W.cell? ⟨b2, o2 + 2, none⟩ = some (.int .i64 (l.getD 2 0)) ∧ W.cell? ⟨b2, o2 + 3, none⟩ = some (.int .i64 (l.getD 3 0)) from
            ⟨by rw [h.cell (p := ⟨b2, o2, none⟩) z2']; exact y0', by rw [h.cell (p := ⟨b2, o2 + 1, none⟩) z2']; exact y1', by rw [h.cell (p := ⟨b2, o2 + 2, none⟩) z2']; exact y2', by rw [h.cell (p := ⟨b2, o2 + 3, none⟩) z2']; exact y3'⟩))
          obtain ⟨y0, y1, y2, y3⟩ := Y.out wr hbel
          have z2 := World.block_lt_of_cell? _ _ y0
          dsimp only at z2
          clear y0' y1' y2' y3'
          have hBsz := hbel.size
          have HSTE := Lib.hid (show s1 = if l.getD 0 0 = 0 then bSet s (l.getD 1 0) (l.getD 2 0) (l.getD 3 0) else bAdd s (l.getD 1 0) (l.getD 2 0) (l.getD 3 0) from by rw [HST.out, bStep, if_pos h4])
          generalize l.getD 0 0 = u0 at *
          generalize l.getD 1 0 = u1 at *
          generalize l.getD 2 0 = u2 at *
          generalize l.getD 3 0 = u3 at *
          clear h4 e4 e1 e2 e3 HST c1'
          by_cases hy : u0 = 0
          · subst hy
            have HNX := Lib.hid (show s1 = bSet s u1 u2 u3 from by rw [HSTE.out, if_pos rfl])
            clear HSTE
            have HRS := Lib.hid (fun W (hW : Below wr.heap.size wr W) => RSet_any W Rb (Nat.le_trans hRbw hW.size) _ s HOK.out (HRR.out.call hW) u1 u2 u3)
            have HSe := Lib.hid (fun W (hB : BookAt W w'.heap.size Bk G vs vl s.1 s.2) (hW : Below w'.heap.size w' W) => Set_any W w'.heap.size Bk G vs vl s hB hW.size (HT.out.call hW) u1 u2 u3)
            rw [← HNX.out] at HRS HSe
            generalize setErr u1 u2 u3 s.2.length = x at *
            go_upto_region 11 with (fail)
            refine wp_region_quiet_any (C := Cls wr.heap.size wr) 10 (by kernel_rfl) (by kernel_rfl) Cls.start ?_
            simp only [List.take_succ_cons, List.take_zero]
            repeat
              (refine wpQuiet_step (fun K hK => ?_)
               go_simp
               first
                 | (refine hK _ ?_; clear hK K)
                 | (apply Exists.intro
                    refine ⟨fun w' hC => ?_, hK _ ?_⟩
                    · (obtain ⟨hr, hr2⟩ := hC.rules
                       first
                         | (fail)
                         | (go_simp; done)
                         | (go_simp; rfl))
                    clear hK K))
            refine wpQuiet_nil ?_
            intro W5 hW5
            show wpAny _ _ _ _ (5 + 1) _ _ _
            refine wpAny_ready (fuel := 5) (rs := [10]) (by kernel_rfl) (by simp) ?_
            refine AllReady.cons rfl (fun K hK => ?_) AllReady.nil
            go_simp
            go_at_call 6
            refine (HRS.out _ hW5).mono ?_
            rintro e w6 ⟨⟨v6, rfl, hR6⟩, hb6⟩
            obtain ⟨ra6, rc6, rfl, hrc6, hro6⟩ := hR6
            have hR6 : RefIs w6 Rb (refV ra6 rc6 (textOf s1.2) s1.2.length) s1 := ⟨ra6, rc6, rfl, hrc6, hro6⟩
            have hX6 : w6.heap[X]? = some (.cells #[.slice ra 4 rc, .string (textOf s.2), .int .i64 s.2.length] 26 (0, 0)) := by rw [hb6.block _ (Nat.lt_of_lt_of_le zX hW5.size), hW5.block _ zX]; exact HXR.out
            have hB6 := (HBR.out.call hW5).call hb6
            have hbel6 := (hbel.trans (hW5.mono hBsz)).trans (hb6.mono (Nat.le_trans hBsz hW5.size))
            have c6 : w6.cell? ⟨b, off + k, none⟩ = some (.slice (some ⟨b2, o2, none⟩) 4 lc) := by rw [hb6.cell (p := ⟨b, off + k, none⟩) (Nat.lt_of_lt_of_le z1 hW5.size), hW5.cell (p := ⟨b, off + k, none⟩) z1]; exact c1
            have p0 : w6.cell? ⟨X, 0, none⟩ = some (.slice ra 4 rc) := by simp [World.cell?, hX6]
            have p1 : w6.cell? ⟨X, 1, none⟩ = some (.string (textOf s.2)) := by simp [World.cell?, hX6]
            have p2 : w6.cell? ⟨X, 2, none⟩ = some (.int .i64 s.2.length) := by simp [World.cell?, hX6]
            have g0 : w6.frozen? ⟨X, 0, none⟩ = false := by simp [World.frozen?, hX6]
            have g1 : w6.frozen? ⟨X, 1, none⟩ = false := by simp [World.frozen?, hX6]
            have g2 : w6.frozen? ⟨X, 2, none⟩ = false := by simp [World.frozen?, hX6]
            go_simp
            refine hK _ _ ?_; clear hK K
            refine wpAny_take (fuel := 4) (i := 11) (v := ?_) rfl (by kernel_rfl) (by kernel_rfl) (by kernel_rfl) (fun _ _ _ h => h) (Or.inl ⟨by rfl, ?_⟩) ?_
            rotate_left
            (intro w; go_simp; try rfl)
            refine wpAny_take (fuel := 3) (i := 12) (v := ?_) rfl (by kernel_rfl) (by kernel_rfl) (by kernel_rfl) (fun _ _ _ h => h) (Or.inl ⟨by rfl, ?_⟩) ?_
            rotate_left
            (intro w; go_simp; try rfl)
            refine wpAny_take (fuel := 2) (i := 13) (v := ?_) rfl (by kernel_rfl) (by kernel_rfl) (by kernel_rfl) (fun _ _ _ h => h) (Or.inl ⟨by rfl, ?_⟩) ?_
            rotate_left
            (intro w; go_simp; try rfl)
            refine wpAny_ready (fuel := 1) (rs := [14]) (by kernel_rfl) (by simp) ?_
            refine AllReady.cons rfl (fun K hK => ?_) AllReady.nil
            go_simp
            refine hK _ _ ?_; clear hK K
            refine wpAny_take (fuel := 0) (i := 15) (v := ?_) rfl (by kernel_rfl) (by kernel_rfl) (by kernel_rfl) (fun _ _ _ h => h) (Or.inl ⟨by rfl, ?_⟩) ?_
            rotate_left
            (intro w; go_simp; try rfl)
            refine wpAny_done (by kernel_rfl) ?_ _
            go_upto_region 12 with (fail)
            have hgr : w6.grownBy (((w6.setCell ⟨X, 0, none⟩ (.slice ra6 4 rc6)).setCell ⟨X, 1, none⟩ (.string (textOf s1.2))).setCell ⟨X, 2, none⟩ (.int .i64 s1.2.length)) (some X) := put3_grown w6 X (.slice ra6 4 rc6) (.string (textOf s1.2)) (.int .i64 s1.2.length)
            have hB7 := hB6.other hX6 hgr
            have hR7 := hR6.other hX6 hgr
            have hX7 := box_store3 (a := .slice ra6 4 rc6) (b' := .string (textOf s1.2)) (c := .int .i64 s1.2.length) hX6
            have hbel7 : Below w'.heap.size w' (((w6.setCell ⟨X, 0, none⟩ (.slice ra6 4 rc6)).setCell ⟨X, 1, none⟩ (.string (textOf s1.2))).setCell ⟨X, 2, none⟩ (.int .i64 s1.2.length)) := box_below3 hbel6 hXs
            have c7 := C1.out _ hbel7
            obtain ⟨v0, v1, v2, v3⟩ := Y.out _ hbel7
            clear c1 y0 y1 y2 y3 x0 x1 x2 p0 p1 p2 g0 g1 g2 hgr hX6 hB6 hbel6 hR6 hro6 hb6 hW5
            clear HRS
            generalize ((w6.setCell ⟨X, 0, none⟩ (.slice ra6 4 rc6)).setCell ⟨X, 1, none⟩ (.string (textOf s1.2))).setCell ⟨X, 2, none⟩ (.int .i64 s1.2.length) = w7 at *
            have l1 : b < w7.heap.size := Nat.lt_of_lt_of_le z1' hbel7.size
            have l2 : b2 < w7.heap.size := Nat.lt_of_lt_of_le z2' hbel7.size
            refine wp_region_quiet_tail (C := Cls w7.heap.size w7) 10 (by kernel_rfl) (by kernel_rfl) Cls.start ?_
            simp only [List.take_succ_cons, List.take_zero, List.drop_succ_cons, List.drop_zero]
            repeat
              (refine wpQuiet_step (fun K hK => ?_)
               go_simp
               first
                 | (refine hK _ ?_; clear hK K)
                 | (apply Exists.intro
                    refine ⟨fun w' hC => ?_, hK _ ?_⟩
                    · (obtain ⟨hr, hr2⟩ := hC.rules
                       first
                         | (fail)
                         | (go_simp; done)
                         | (go_simp; rfl))
                    clear hK K))
            refine wpQuiet_nil ?_
            intro W8 hW8
            go_wp2_with fail
            go_at_call 7
            refine (HSe.out _ (hB7.call hW8) (hbel7.trans (hW8.mono hbel7.size))).mono ?_
            rintro e w9 ⟨rfl, ⟨vl9, hB9, hbl9⟩, hK9⟩
            have hB8 := hB7.call hW8
            have hX8 : W8.heap[X]? = _ := (hW8.block _ (Array.getElem?_eq_some_iff.1 hX7).1).trans hX7
            have hX9 := hK9.at_ hB8 hX8
            have hR9 := (hR7.call hW8).kept hK9 hB8 hbk1 HVS1.out
            have hbel9 := (hbel7.trans (hW8.mono hbel7.size)).trans (hK9.below hB8)
            have HX := Lib.hid (fun W (h : Below w9.heap.size w9 W) => (show W.cell? ⟨X, 0, none⟩ = some (.slice ra6 4 rc6) ∧ W.cell? ⟨X, 1, none⟩ = some (.string (textOf s1.2)) from by
              have hXW : W.heap[X]? = _ := (h.block _ (Array.getElem?_eq_some_iff.1 hX9).1).trans hX9
              exact ⟨by simp [World.cell?, hXW], by simp [World.cell?, hXW]⟩))
            have HTX := Lib.hid (fun W (h : Below w9.heap.size w9 W) => Text_any W w'.heap.size Bk G vs vl9 s1.1 s1.2 (hB9.call h) (Nat.le_trans HOK1.out.len (by omega)) HOK1.out.line)
            have HRW := Lib.hid (fun W (h : Below w9.heap.size w9 W) => Rows_any W w'.heap.size Bk G vs vl9 s1.1 s1.2 (hB9.call h))
            obtain ⟨ra9, rc9, er9, hrc9, hro9⟩ := hR9
            simp only [Value.agg.injEq, Array.mk.injEq, List.cons.injEq, Value.slice.injEq] at er9
            obtain ⟨⟨rfl, -, rfl⟩, -⟩ := er9
            have hR9 : RefIs w9 Rb (refV ra6 rc6 (textOf s1.2) s1.2.length) s1 := ⟨ra6, rc6, rfl, hrc9, hro9⟩
            have HEE := Lib.hid (fun W (h : Below w9.heap.size w9 W) G' (ho : RowsAt W (some ⟨G', 0, none⟩) 4 s1.1) => ERows_like (some ⟨G', 0, none⟩) ra6 4 4 rc6 s1.1 W ho ((own_rows4 hro9).call h) (by omega) (fun k hk => by rw [HOK1.out.sq.2 k hk]; omega))
            have HER := Lib.hid (fun W (h : Below w9.heap.size w9 W) => EError_any x x W (HG.out.call (hbel9.trans (h.mono hbel9.size))))
            have h4r := HOK1.out.sq.1
            obtain ⟨t0, t1⟩ := HX.out w9 (Below.refl _ _)
            have HB9 := Lib.hid hB9
            have HR9 := Lib.hid hR9
            have HX9 := Lib.hid hX9
            clear hB9 hR9 hX9 hX8 hB8 hK9 hbl9 hX7 hR7 hB7 hbel7 hro9 HSe hW8 l1 l2 c7 v0 v1 v2 v3
            generalize hTT : textOf s1.2 = T at *
            have HTT := Lib.hid hTT
            clear hTT
            go_upto_region 15 with (fail)
            go_region_held3 (fun w' => w'.cell? ⟨X, 0, none⟩ = some (.slice ra6 4 rc6) ∧ w'.cell? ⟨X, 1, none⟩ = some (.string T)) (first | exact HX.out _ Cls.start | exact HX.out _ d1 | exact HX.out _ d2 | exact HX.out _ d3 | exact HX.out _ d4)
              (first
                | (go_at_call 10; refine (HER.out _ Cls.start).mono ?_; rintro e wa ⟨rfl, ha⟩; have d1 := below_trans Cls.start ha)
                | (go_at_call 11; refine (HTX.out _ d1).mono ?_; rintro e wb ⟨rfl, hb⟩; have d2 := below_trans d1 hb)
                | (go_at_call 13; refine (HRW.out _ d2).mono ?_; rintro e wc ⟨⟨G2, vs2, rfl, ho⟩, hc⟩; have d3 := below_trans d2 hc; have ho' := ho.read; rw [h4r] at ho')
                | (go_at_call 12; refine (HEE.out _ d3 _ ho').mono ?_; rintro e wd ⟨rfl, hd⟩; have d4 := below_trans d3 hd))
            have hfin := hbel9.trans (d4.mono hbel9.size)
            go_wp2_with fail
            go_roundg (71 - k)
            case measure => omega
            case rel =>
              refine ⟨k + 1, by omega, by omega, by omega, by go_num, ?_⟩
              rw [← HS1.out, HTT.out]
              exact ⟨⟨vl9, HB9.out.call d4⟩, ⟨ra6, rc6, HR9.out.call d4, (d4.block _ (Array.getElem?_eq_some_iff.1 HX9.out).1).trans HX9.out⟩, hfin⟩
          · have hyb : (u0 == 0) = false := by simp [hy]
            have HNX := Lib.hid (show s1 = bAdd s u1 u2 u3 from by rw [HSTE.out, if_neg hy])
            clear HSTE hy
            have HRS := Lib.hid (fun W (hW : Below wr.heap.size wr W) => RAdd_any W Rb (Nat.le_trans hRbw hW.size) _ s HOK.out (HRR.out.call hW) u1 u2 u3)
            have HSe := Lib.hid (fun W (hB : BookAt W w'.heap.size Bk G vs vl s.1 s.2) (hW : Below w'.heap.size w' W) => Add_any W w'.heap.size Bk G vs vl s hB hW.size (HT.out.call hW) u1 u2 u3)
            rw [← HNX.out] at HRS HSe
            generalize addErr u1 u2 u3 s.2.length = x at *
            go_upto_region 13 with (fail)
            refine wp_region_quiet_any (C := Cls wr.heap.size wr) 10 (by kernel_rfl) (by kernel_rfl) Cls.start ?_
            simp only [List.take_succ_cons, List.take_zero]
            repeat
              (refine wpQuiet_step (fun K hK => ?_)
               go_simp
               first
                 | (refine hK _ ?_; clear hK K)
                 | (apply Exists.intro
                    refine ⟨fun w' hC => ?_, hK _ ?_⟩
                    · (obtain ⟨hr, hr2⟩ := hC.rules
                       first
                         | (fail)
                         | (go_simp; done)
                         | (go_simp; rfl))
                    clear hK K))
            refine wpQuiet_nil ?_
            intro W5 hW5
            show wpAny _ _ _ _ (5 + 1) _ _ _
            refine wpAny_ready (fuel := 5) (rs := [10]) (by kernel_rfl) (by simp) ?_
            refine AllReady.cons rfl (fun K hK => ?_) AllReady.nil
            go_simp
            go_at_call 8
            refine (HRS.out _ hW5).mono ?_
            rintro e w6 ⟨⟨v6, rfl, hR6⟩, hb6⟩
            obtain ⟨ra6, rc6, rfl, hrc6, hro6⟩ := hR6
            have hR6 : RefIs w6 Rb (refV ra6 rc6 (textOf s1.2) s1.2.length) s1 := ⟨ra6, rc6, rfl, hrc6, hro6⟩
            have hX6 : w6.heap[X]? = some (.cells #[.slice ra 4 rc, .string (textOf s.2), .int .i64 s.2.length] 26 (0, 0)) := by rw [hb6.block _ (Nat.lt_of_lt_of_le zX hW5.size), hW5.block _ zX]; exact HXR.out
            have hB6 := (HBR.out.call hW5).call hb6
            have hbel6 := (hbel.trans (hW5.mono hBsz)).trans (hb6.mono (Nat.le_trans hBsz hW5.size))
            have c6 : w6.cell? ⟨b, off + k, none⟩ = some (.slice (some ⟨b2, o2, none⟩) 4 lc) := by rw [hb6.cell (p := ⟨b, off + k, none⟩) (Nat.lt_of_lt_of_le z1 hW5.size), hW5.cell (p := ⟨b, off + k, none⟩) z1]; exact c1
            have p0 : w6.cell? ⟨X, 0, none⟩ = some (.slice ra 4 rc) := by simp [World.cell?, hX6]
            have p1 : w6.cell? ⟨X, 1, none⟩ = some (.string (textOf s.2)) := by simp [World.cell?, hX6]
            have p2 : w6.cell? ⟨X, 2, none⟩ = some (.int .i64 s.2.length) := by simp [World.cell?, hX6]
            have g0 : w6.frozen? ⟨X, 0, none⟩ = false := by simp [World.frozen?, hX6]
            have g1 : w6.frozen? ⟨X, 1, none⟩ = false := by simp [World.frozen?, hX6]
            have g2 : w6.frozen? ⟨X, 2, none⟩ = false := by simp [World.frozen?, hX6]
            go_simp
            refine hK _ _ ?_; clear hK K
            refine wpAny_take (fuel := 4) (i := 11) (v := ?_) rfl (by kernel_rfl) (by kernel_rfl) (by kernel_rfl) (fun _ _ _ h => h) (Or.inl ⟨by rfl, ?_⟩) ?_
            rotate_left
            (intro w; go_simp; try rfl)
            refine wpAny_take (fuel := 3) (i := 12) (v := ?_) rfl (by kernel_rfl) (by kernel_rfl) (by kernel_rfl) (fun _ _ _ h => h) (Or.inl ⟨by rfl, ?_⟩) ?_
            rotate_left
            (intro w; go_simp; try rfl)
            refine wpAny_take (fuel := 2) (i := 13) (v := ?_) rfl (by kernel_rfl) (by kernel_rfl) (by kernel_rfl) (fun _ _ _ h => h) (Or.inl ⟨by rfl, ?_⟩) ?_
            rotate_left
            (intro w; go_simp; try rfl)
            refine wpAny_ready (fuel := 1) (rs := [14]) (by kernel_rfl) (by simp) ?_
            refine AllReady.cons rfl (fun K hK => ?_) AllReady.nil
            go_simp
            refine hK _ _ ?_; clear hK K
            refine wpAny_take (fuel := 0) (i := 15) (v := ?_) rfl (by kernel_rfl) (by kernel_rfl) (by kernel_rfl) (fun _ _ _ h => h) (Or.inl ⟨by rfl, ?_⟩) ?_
            rotate_left
            (intro w; go_simp; try rfl)
            refine wpAny_done (by kernel_rfl) ?_ _
            go_upto_region 14 with (fail)
            have hgr : w6.grownBy (((w6.setCell ⟨X, 0, none⟩ (.slice ra6 4 rc6)).setCell ⟨X, 1, none⟩ (.string (textOf s1.2))).setCell ⟨X, 2, none⟩ (.int .i64 s1.2.length)) (some X) := put3_grown w6 X (.slice ra6 4 rc6) (.string (textOf s1.2)) (.int .i64 s1.2.length)
            have hB7 := hB6.other hX6 hgr
            have hR7 := hR6.other hX6 hgr
            have hX7 := box_store3 (a := .slice ra6 4 rc6) (b' := .string (textOf s1.2)) (c := .int .i64 s1.2.length) hX6
            have hbel7 : Below w'.heap.size w' (((w6.setCell ⟨X, 0, none⟩ (.slice ra6 4 rc6)).setCell ⟨X, 1, none⟩ (.string (textOf s1.2))).setCell ⟨X, 2, none⟩ (.int .i64 s1.2.length)) := box_below3 hbel6 hXs
            have c7 := C1.out _ hbel7
            obtain ⟨v0, v1, v2, v3⟩ := Y.out _ hbel7
            clear c1 y0 y1 y2 y3 x0 x1 x2 p0 p1 p2 g0 g1 g2 hgr hX6 hB6 hbel6 hR6 hro6 hb6 hW5
            clear HRS
            generalize ((w6.setCell ⟨X, 0, none⟩ (.slice ra6 4 rc6)).setCell ⟨X, 1, none⟩ (.string (textOf s1.2))).setCell ⟨X, 2, none⟩ (.int .i64 s1.2.length) = w7 at *
            have l1 : b < w7.heap.size := Nat.lt_of_lt_of_le z1' hbel7.size
            have l2 : b2 < w7.heap.size := Nat.lt_of_lt_of_le z2' hbel7.size
            refine wp_region_quiet_tail (C := Cls w7.heap.size w7) 10 (by kernel_rfl) (by kernel_rfl) Cls.start ?_
            simp only [List.take_succ_cons, List.take_zero, List.drop_succ_cons, List.drop_zero]
            repeat
              (refine wpQuiet_step (fun K hK => ?_)
               go_simp
               first
                 | (refine hK _ ?_; clear hK K)
                 | (apply Exists.intro
                    refine ⟨fun w' hC => ?_, hK _ ?_⟩
                    · (obtain ⟨hr, hr2⟩ := hC.rules
                       first
                         | (fail)
                         | (go_simp; done)
                         | (go_simp; rfl))
                    clear hK K))
            refine wpQuiet_nil ?_
            intro W8 hW8
            go_wp2_with fail
            go_at_call 9
            refine (HSe.out _ (hB7.call hW8) (hbel7.trans (hW8.mono hbel7.size))).mono ?_
            rintro e w9 ⟨rfl, ⟨vl9, hB9, hbl9⟩, hK9⟩
            have hB8 := hB7.call hW8
            have hX8 : W8.heap[X]? = _ := (hW8.block _ (Array.getElem?_eq_some_iff.1 hX7).1).trans hX7
            have hX9 := hK9.at_ hB8 hX8
            have hR9 := (hR7.call hW8).kept hK9 hB8 hbk1 HVS1.out
            have hbel9 := (hbel7.trans (hW8.mono hbel7.size)).trans (hK9.below hB8)
            have HX := Lib.hid (fun W (h : Below w9.heap.size w9 W) => (show W.cell? ⟨X, 0, none⟩ = some (.slice ra6 4 rc6) ∧ W.cell? ⟨X, 1, none⟩ = some (.string (textOf s1.2)) from by
              have hXW : W.heap[X]? = _ := (h.block _ (Array.getElem?_eq_some_iff.1 hX9).1).trans hX9
              exact ⟨by simp [World.cell?, hXW], by simp [World.cell?, hXW]⟩))
            have HTX := Lib.hid (fun W (h : Below w9.heap.size w9 W) => Text_any W w'.heap.size Bk G vs vl9 s1.1 s1.2 (hB9.call h) (Nat.le_trans HOK1.out.len (by omega)) HOK1.out.line)
            have HRW := Lib.hid (fun W (h : Below w9.heap.size w9 W) => Rows_any W w'.heap.size Bk G vs vl9 s1.1 s1.2 (hB9.call h))
            obtain ⟨ra9, rc9, er9, hrc9, hro9⟩ := hR9
            simp only [Value.agg.injEq, Array.mk.injEq, List.cons.injEq, Value.slice.injEq] at er9
            obtain ⟨⟨rfl, -, rfl⟩, -⟩ := er9
            have hR9 : RefIs w9 Rb (refV ra6 rc6 (textOf s1.2) s1.2.length) s1 := ⟨ra6, rc6, rfl, hrc9, hro9⟩
            have HEE := Lib.hid (fun W (h : Below w9.heap.size w9 W) G' (ho : RowsAt W (some ⟨G', 0, none⟩) 4 s1.1) => ERows_like (some ⟨G', 0, none⟩) ra6 4 4 rc6 s1.1 W ho ((own_rows4 hro9).call h) (by omega) (fun k hk => by rw [HOK1.out.sq.2 k hk]; omega))
            have HER := Lib.hid (fun W (h : Below w9.heap.size w9 W) => EError_any x x W (HG.out.call (hbel9.trans (h.mono hbel9.size))))
            have h4r := HOK1.out.sq.1
            obtain ⟨t0, t1⟩ := HX.out w9 (Below.refl _ _)
            have HB9 := Lib.hid hB9
            have HR9 := Lib.hid hR9
            have HX9 := Lib.hid hX9
            clear hB9 hR9 hX9 hX8 hB8 hK9 hbl9 hX7 hR7 hB7 hbel7 hro9 HSe hW8 l1 l2 c7 v0 v1 v2 v3
            generalize hTT : textOf s1.2 = T at *
            have HTT := Lib.hid hTT
            clear hTT
            go_upto_region 15 with (fail)
            go_region_held3 (fun w' => w'.cell? ⟨X, 0, none⟩ = some (.slice ra6 4 rc6) ∧ w'.cell? ⟨X, 1, none⟩ = some (.string T)) (first | exact HX.out _ Cls.start | exact HX.out _ d1 | exact HX.out _ d2 | exact HX.out _ d3 | exact HX.out _ d4)
              (first
                | (go_at_call 10; refine (HER.out _ Cls.start).mono ?_; rintro e wa ⟨rfl, ha⟩; have d1 := below_trans Cls.start ha)
                | (go_at_call 11; refine (HTX.out _ d1).mono ?_; rintro e wb ⟨rfl, hb⟩; have d2 := below_trans d1 hb)
                | (go_at_call 13; refine (HRW.out _ d2).mono ?_; rintro e wc ⟨⟨G2, vs2, rfl, ho⟩, hc⟩; have d3 := below_trans d2 hc; have ho' := ho.read; rw [h4r] at ho')
                | (go_at_call 12; refine (HEE.out _ d3 _ ho').mono ?_; rintro e wd ⟨rfl, hd⟩; have d4 := below_trans d3 hd))
            have hfin := hbel9.trans (d4.mono hbel9.size)
            go_wp2_with fail
            go_roundg (71 - k)
            case measure => omega
            case rel =>
              refine ⟨k + 1, by omega, by omega, by omega, by go_num, ?_⟩
              rw [← HS1.out, HTT.out]
              exact ⟨⟨vl9, HB9.out.call d4⟩, ⟨ra6, rc6, HR9.out.call d4, (d4.block _ (Array.getElem?_eq_some_iff.1 HX9.out).1).trans HX9.out⟩, hfin⟩
        · have h4i : ((l.length : Int) != 4) = true := by simp; omega
          have HNX := Lib.hid (show s1 = s from by rw [HST.out, bStep, if_neg h4])
          clear h4 HST e4 c1'
          go_wp2_with fail
          go_roundg (71 - k)
          case measure => omega
          case rel =>
            refine ⟨k + 1, by omega, by omega, by omega, by go_num, ?_⟩
            rw [← HS1.out, HNX.out]
            exact ⟨⟨vl, HBR.out⟩, ⟨ra, rc, HRR.out, HXR.out⟩, hbel⟩
      · obtain rfl : k = 70 := by omega
        obtain ⟨ra', rc', er, hrc, hro⟩ := hRr
        simp only [Value.agg.injEq, Array.mk.injEq, List.cons.injEq, Value.slice.injEq] at er
        obtain ⟨⟨rfl, -, rfl⟩, -⟩ := er
        have hDM : ∀ r : List (List Int), detN 4 r % 9973 = G_det r := fun r => by rw [detN_G]; rfl
        have HDT := Lib.hid (fun W (h : Below wr.heap.size wr W) => Det_any W w'.heap.size Bk G vs vl _ _ (hBr.call h))
        have HDM := Lib.hid (fun W (h : Below wr.heap.size wr W) => DetMod_any 4 ra rc _ W (by omega) hrc hok.sq (ent_of hok) ((own_rows4 hro).call h))
        have HRW := Lib.hid (fun W (h : Below wr.heap.size wr W) => Rows_any W w'.heap.size Bk G vs vl _ _ (hBr.call h))
        rw [hDM] at HDM
        have HX := Lib.hid (fun W (h : Below wr.heap.size wr W) => (show W.cell? ⟨X, 0, none⟩ = some (.slice ra 4 rc) from by
          have hXW : W.heap[X]? = _ := (h.block _ (Array.getElem?_eq_some_iff.1 hXr).1).trans hXr
          simp [World.cell?, hXW]))
        have x0 := HX.out wr (Below.refl _ _)
        clear hBr hXr hro hok HOK1 hDM
        generalize G_det _ = D at *
        go_upto_region 17 with (fail)
        go_region_held3 (fun w' => w'.cell? ⟨X, 0, none⟩ = some (.slice ra 4 rc)) (first | exact HX.out _ Cls.start | exact HX.out _ d1 | exact HX.out _ d2 | exact HX.out _ d3)
          (first
            | (go_at_call 14; refine (HDT.out _ Cls.start).mono ?_; rintro e wa ⟨rfl, ha⟩; have d1 := below_trans Cls.start ha)
            | (go_at_call 15; refine (HDM.out _ d1).mono ?_; rintro e wb ⟨rfl, hb⟩; have d2 := below_trans d1 hb)
            | (go_at_call 13; refine (HRW.out _ d2).mono ?_; rintro e wc ⟨⟨G2, vs2, rfl, ho⟩, hc⟩; have d3 := below_trans d2 hc))
        go_wp2_with fail
        go_ret
        exact ⟨rfl, hbel.trans (d3.mono hbel.size)⟩
    · obtain rfl : n = k := by omega
      obtain ⟨ra', rc', er, hrc, hro⟩ := hRr
      simp only [Value.agg.injEq, Array.mk.injEq, List.cons.injEq, Value.slice.injEq] at er
      obtain ⟨⟨rfl, -, rfl⟩, -⟩ := er
      have hDM : ∀ r : List (List Int), detN 4 r % 9973 = G_det r := fun r => by rw [detN_G]; rfl
      have HDT := Lib.hid (fun W (h : Below wr.heap.size wr W) => Det_any W w'.heap.size Bk G vs vl _ _ (hBr.call h))
      have HDM := Lib.hid (fun W (h : Below wr.heap.size wr W) => DetMod_any 4 ra rc _ W (by omega) hrc hok.sq (ent_of hok) ((own_rows4 hro).call h))
      have HRW := Lib.hid (fun W (h : Below wr.heap.size wr W) => Rows_any W w'.heap.size Bk G vs vl _ _ (hBr.call h))
      rw [hDM] at HDM
      have HX := Lib.hid (fun W (h : Below wr.heap.size wr W) => (show W.cell? ⟨X, 0, none⟩ = some (.slice ra 4 rc) from by
        have hXW : W.heap[X]? = _ := (h.block _ (Array.getElem?_eq_some_iff.1 hXr).1).trans hXr
        simp [World.cell?, hXW]))
      have x0 := HX.out wr (Below.refl _ _)
      clear hBr hXr hro hok HOK1 hDM
      generalize G_det _ = D at *
      go_upto_region 17 with (fail)
      go_region_held3 (fun w' => w'.cell? ⟨X, 0, none⟩ = some (.slice ra 4 rc)) (first | exact HX.out _ Cls.start | exact HX.out _ d1 | exact HX.out _ d2 | exact HX.out _ d3)
        (first
          | (go_at_call 14; refine (HDT.out _ Cls.start).mono ?_; rintro e wa ⟨rfl, ha⟩; have d1 := below_trans Cls.start ha)
          | (go_at_call 15; refine (HDM.out _ d1).mono ?_; rintro e wb ⟨rfl, hb⟩; have d2 := below_trans d1 hb)
          | (go_at_call 13; refine (HRW.out _ d2).mono ?_; rintro e wc ⟨⟨G2, vs2, rfl, ho⟩, hc⟩; have d3 := below_trans d2 hc))
      go_wp2_with fail
      go_ret
      exact ⟨rfl, hbel.trans (d3.mono hbel.size)⟩
theorem frame_own : ownKnob Tryd.prog.godebug = none := by kernel_rfl
theorem frame_laid : laidOutB Tryd.prog = true := by kernel_rfl
theorem frame_pg : Tryd.prog.globalNamed "internal/strconv.uint64pow10" = some 1 := by kernel_rfl
theorem frame_pt : (Tryd.prog.globals[1]?).map (·.type) = some 108 := by kernel_rfl
theorem frame_pd {H : Type} : (Rows.laid_internal_strconv_uint64pow10 : DataW H) = Lib.tabData .u64 Lib.pow10Tab := by rfl
theorem tab_of_laid {W : World} (h : laidMetH Tryd.prog Rows.bookPlaysRow.laid W) : Tab W.heap.size W := by
  have h' : laidMet Tryd.prog (Rows.bookPlaysRow.laid.filter fun x => x.2.handleName?.isNone) W := (laidMetH_iff.1 h).1
  have hr : Lib.VarReads Tryd.prog W "internal/strconv.uint64pow10" Rows.laid_internal_strconv_uint64pow10 := Lib.laidMet.reads h' (List.mem_filter.2 ⟨by simp [Rows.bookPlaysRow], by kernel_rfl⟩)
  rw [frame_pd] at hr
  exact Lib.tabBelow_of_tabIs (tabIs_of_reads frame_pg frame_pt Tryd.underlying108 Tryd.underlying102 (by kernel_rfl) (by kernel_rfl) hr)
theorem frame_et : Tryd.prog.globalNamed "errors.errorType" = some 0 := by kernel_rfl
theorem frame_rt : (Tryd.prog.cutTypes.find? (·.1 == "internal/reflectlite.rtype")).map (·.2) = some 89 := by kernel_rfl
theorem frame_oneRow : ((List.range 144).filter fun t => Tryd.prog.rowNamed t [101, 114, 114, 111, 114]) = [30] := by kernel_rfl
theorem frame_size : Tryd.prog.types.size = 144 := by kernel_rfl
theorem handle_of_laid {W : World} (h : laidMetH Tryd.prog Rows.bookPlaysRow.laid W) : Handle W := by
  have h2 : ∃ name u ty, (Rows.laid_errors_errorType : DataW Unit).handleName? = some name ∧ (Tryd.prog.cutTypes.find? (·.1 == "internal/reflectlite.rtype")).map (·.2) = some u ∧ ty < Tryd.prog.types.size ∧ Tryd.prog.rowNamed ty name = true ∧ W.var? Tryd.prog "errors.errorType" = some #[.iface u (.agg #[typeHandle Tryd.prog ty])] := (laidMetH_iff.1 h).2 ("errors.errorType", Rows.laid_errors_errorType) (List.mem_filter.2 ⟨by simp [Rows.bookPlaysRow], by kernel_rfl⟩)
  obtain ⟨name, u, ty, e1, e2, e3, e4, e5⟩ := h2
  have en : name = [101, 114, 114, 111, 114] := (Option.some.inj e1).symm
  subst en
  obtain rfl := Option.some.inj (frame_rt.symm.trans e2)
  have hm : ty ∈ (List.range 144).filter fun t => Tryd.prog.rowNamed t [101, 114, 114, 111, 114] := List.mem_filter.2 ⟨List.mem_range.2 (by rw [← frame_size]; exact e3), e4⟩
  rw [frame_oneRow] at hm
  obtain rfl := List.mem_singleton.1 hm
  have hh : typeHandle Tryd.prog 30 = .pointer (some ⟨4, 30, none⟩) := by kernel_rfl
  rw [hh] at e5
  unfold Handle
  simpa using World.var?_cell frame_et e5 0
noncomputable def laidWorld (os : Os) : World := World.doorLaid Tryd.prog 400 os
theorem laidWorld_met (os : Os) (args : Array Value) : laidMetH Tryd.prog Rows.bookPlaysRow.laid ((laidWorld os).forCall (fun _ _ => 0) ⟨#[], args, []⟩).memory :=
  laidMetH_of_parts3 (fuel := 8) (laidMet_of_run' 8 (by kernel_rfl) (by kernel_rfl)) (by kernel_rfl) (by kernel_rfl)
set_option maxRecDepth 100000 in
theorem frame_lifted (os : Os) (started : os.Started) (H : Type) (enc : TypeId × Value → H) :
    ReturnsInHanded {} Tryd.checked os 3 .any (fun w args => (Rows.bookPlaysSpec.pre enc Tryd.prog Tryd.f3 Rows.bookPlaysRow.domain false w args ∧ laidMetH Tryd.prog Rows.bookPlaysRow.laid w) ∧ sizedMet enc Tryd.prog Tryd.f3 (OpenSpec.ofChange Rows.bookPlaysSpec) false w args) (Rows.bookPlaysSpec.post enc Tryd.prog Tryd.f3 false true false false) := by
  refine returnsInHanded_of_change_and (C := Tryd.checked) (X := (fun w _ => laidMetH Tryd.prog Rows.bookPlaysRow.laid w)) (fun _ _ _ hh h => h.of_heap hh) frame_own started (by kernel_rfl) Tryd.func3
    (ChangeSpec.witness_shaped (enc := enc) (C := Tryd.checked) (os := os) (X := (fun w _ => laidMetH Tryd.prog Rows.bookPlaysRow.laid w)) false (laidWorld os) #[.slice none 0 0] 8 rfl (World.shaped_of_RefB (by kernel_rfl) (by kernel_rfl)) (by kernel_rfl) (by kernel_rfl) (by kernel_rfl) (laidWorld_met os _)) ?_
  intro W base args ds gs before hval0 hW hcnd _ hLaid _
  have hval : ∀ (j : Nat) t v, Tryd.f3.params[j]? = some t → args[j]? = some v → Value.okWide Tryd.prog W .any base t v := hval0
  have hW' := hW
  obtain ⟨p, q, hA0, hV, rfl, hfz, hnd⟩ := hW
  have hA : DataW.TrodAll enc Tryd.prog W 0 (fun _ => true) true Tryd.f3.params.toList args.toList ds p := hA0
  rw [Tryd.params3] at hA hval
  obtain ⟨v0, vs0, d0, ds0, p0, q0, hargs, rfl, rfl, h0, r0⟩ := trodAll_cons hA
  obtain ⟨rfl, rfl, rfl⟩ := trodAll_nil r0
  obtain rfl : args = #[v0] := by cases args; simp_all
  obtain ⟨rfl, rfl⟩ := trodVars_none hV
  have k0 := h0
  have lt0 : ∀ x ∈ p0, x.block < W.heap.size := by obtain ⟨m, hm⟩ := k0; exact DataW.trod_lt m _ _ _ hm
  obtain ⟨a0, len0, cap0, rfl⟩ := okWide_slice Tryd.underlying22 (hval 0 22 v0 rfl rfl)
  obtain ⟨xs0, hxs0, hcap0, hmax0⟩ := open_rowsAt Tryd.underlying22 Tryd.underlying28 Tryd.underlying3 (by kernel_rfl) (by kernel_rfl) h0
  clear hA0 hval0
  refine (BookPlays_any a0 len0 cap0 xs0 hxs0 hcap0 hmax0 W rfl (tab_of_laid hLaid) (handle_of_laid hLaid)).mono fun e W' ⟨he, bel⟩ => ?_
  subst he
  exact ⟨_, rfl, _, _, _, [], _, [], hW', trodAll_mk1 (shut_bool Tryd.underlying4 _), (trodAll_cons_mk (Below.trod frame_laid (by kernel_rfl) (of_decide_eq_true (by kernel_rfl)) k0 bel lt0) trodAll_mk0), rfl, bel.frame _, fun h => by cases h⟩

theorem BookPlays_over : Rows.bookPlaysRow.holds Tryd.pinned (OpenSpec.ofChange Rows.bookPlaysSpec) :=
  OpenClaim.holds_of_wide 3 Tryd.f3 rfl rfl rfl rfl rfl rfl rfl ⟨rfl, rfl, rfl, rfl, rfl⟩ rfl rfl rfl rfl rfl (by kernel_rfl) Tryd.func3 (by kernel_rfl)
    (of_decide_eq_true (by kernel_rfl)) (by unfold Func.isWrapper; first | (rw [if_pos (by decide +kernel)]; kernel_rfl) | (rw [if_neg (by decide +kernel)]; exact ⟨rfl, rfl⟩))
    (fun os started H enc _ => frame_lifted os started H enc)

theorem frame_wants : ∀ t ∈ [22], Tryd.prog.wantsStandIn t = false := by
  intro t ht
  simp only [List.mem_cons, List.not_mem_nil, or_false] at ht
  subst ht; kernel_rfl
/-- THE STATEMENT: THE TIED CARD -/
theorem BookPlays_holds : Rows.BookPlaysCardSaid :=
  Claim7.holds_tied_plain_at .later [] [.data, .data, .data, .handle] true _ true
    BookPlays_over (fun _ h => by cases h) (by kernel_rfl) (fun _ h => by cases h) bookPlays_row_tie rfl ⟨rfl, rfl⟩ (by kernel_rfl) rfl
    (fun f fn hf hfn => by
      obtain rfl : f = 3 := Option.some.inj ((show Tryd.prog.funcNamed "rankmere/rankmerelaw4.BookPlays" = some 3 by kernel_rfl).symm.trans hf) |>.symm
      obtain rfl : fn = Tryd.f3 := (Option.some.inj (Tryd.func3.symm.trans hfn)).symm
      exact ⟨by kernel_rfl, fun j t ht => by
        rw [Tryd.params3] at ht
        exact frame_wants t (by have := Array.mem_of_getElem? ht; simpa using this)⟩)
    (by kernel_rfl)
end Go.Proofs.YtghgekimeglogaaDoor.BookPlaysP
