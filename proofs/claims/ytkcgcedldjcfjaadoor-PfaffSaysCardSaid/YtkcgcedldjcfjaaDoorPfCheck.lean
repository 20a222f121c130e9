/- Contract of pfaff.Check. -/
import Derived.Test.YtkcgcedldjcfjaaDoorEach
import Derived.Test.YtkcgcedldjcfjaaDoorRound
import Derived.Test.YtkcgcedldjcfjaaDoorGrounds
import Derived.Test.YtkcgcedldjcfjaaDoorBnd
namespace Go.Proofs.YtkcgcedldjcfjaaDoor
open Go.RowKit Go.Shelf
set_option linter.unusedVariables false
set_option linter.unusedSimpArgs false
attribute [local go_sem] Oper.semAt_some

/-- what is wrong with a matrix that should be skew -/
def skewB (rows : List (List Int)) : Bool := (List.range rows.length).all fun i => (List.range rows.length).all fun j => (rows.getD j []).getD i 0 == -(rows.getD i []).getD j 0
def skErr (rows : List (List Int)) : Int := if sqErr rows 6 (-9) 9 ≠ 0 then sqErr rows 6 (-9) 9 else if skewB rows = true then 0 else 6

/-- one place is skew -/
def skewAt (rows : List (List Int)) (i j : Nat) : Prop := (rows.getD j []).getD i 0 = -(rows.getD i []).getD j 0

theorem PfCheck_bad (a : Option Addr) (n cap : Nat) (rows : List (List Int)) (w : World) (hr : RowsAt w a n rows) (hs : Small n rows) (he : sqErr rows 6 (-9) 9 ≠ 0) :
    Calls Tryd.prog 6 #[.slice a n cap] w fun e w' => e = .returned (errV (sqErr rows 6 (-9) 9)) ∧ Below w.heap.size w w' := by
  have hG := fun w (hr : RowsAt w a n rows) => Square_any a n cap rows 6 (-9) 9 w hr (by omega) (by omega) hs.1 hs.2
  have HR := Lib.hid hr
  clear hr hs
  have hE : errV (sqErr rows 6 (-9) 9) = .iface 34 (.int .i64 (sqErr rows 6 (-9) 9)) := by unfold errV; rw [if_neg he]
  rw [hE] at hG ⊢
  generalize sqErr rows 6 (-9) 9 = e at *
  clear hE
  go_enter Tryd.func6, Tryd.ntmps6
  go_wp2_with fail
  go_at_call 13
  refine (hG _ (HR.out.call (((Below.refl _ w).alloc (Nat.le_refl _) _).alloc (by simp) _))).mono ?_
  rintro e w1 ⟨rfl, rfl⟩
  go_wp2_with fail
  exact bodyPost_ret (v := .iface 34 (.int .i64 e)) (by simp [results, Tryd.f6, go_sem]) rfl ⟨rfl, ((Below.refl _ w).alloc (Nat.le_refl _) _).alloc (by simp) _⟩

theorem PfCheck_good (a : Option Addr) (n cap : Nat) (rows : List (List Int)) (w : World) (hr : RowsAt w a n rows) (hs : Small n rows) (he : sqErr rows 6 (-9) 9 = 0) :
    Calls Tryd.prog 6 #[.slice a n cap] w fun e w' => e = .returned (errV (skErr rows)) ∧ Below w.heap.size w w' := by
  have hG := fun w (hr : RowsAt w a n rows) => Square_any a n cap rows 6 (-9) 9 w hr (by omega) (by omega) hs.1 hs.2
  have HR := Lib.hid hr
  have hsq := good_sq he
  have hent := good_ent (B := 9) (by omega) he
  have hl := hr.1
  obtain ⟨hg1, hg2, hg3⟩ := sqErr_good he
  rw [hl] at hsq hg2
  obtain ⟨ra, rc, hsh, hkp⟩ := rows_each hr
  rw [he, show errV 0 = .nilIface from rfl] at hG
  have HE := Lib.hid he
  have HSQ := Lib.hid hsq
  have HN := Lib.hid hent
  have HSH := Lib.hid hsh
  have HKP := Lib.hid hkp
  have HL := Lib.hid hl
  clear he hr hs hsq hent hg1 hg3 hsh hkp hl
  refine (callsIn_wide (n := 9)).1 ?_
  refine callsIn_of_wp_marks Tryd.func6 rfl trivial ?_ rfl
  simp only [Tryd.ntmps6, List.size_toArray, List.length_cons, List.length_nil, Nat.reduceAdd, Nat.reduceSub, Array.replicate_succ, Array.replicate_zero, List.push_toArray, List.append_toArray, List.nil_append, List.cons_append]
  gi_wp2
  refine ⟨trivial, (callsIn_wide.2 (hG _ (HR.out.call (((Below.refl _ w).alloc (Nat.le_refl _) _).alloc (by simp) _)))).mono ?_⟩
  rintro e w1 ⟨rfl, rfl⟩
  gi_wp2
  refine ⟨trivial, (Each_in Fence.wide _ trivial rfl a n cap _).mono ?_⟩
  rintro e w1 ⟨rfl, rfl⟩
  gi_wp2
  have hc0 := cell_new_l w (.slice a n cap) 22
  have hc1 := cell_new_l (w.alloc (.cells #[.slice a n cap] 22)) .nilIface 26
  have hc2 := cell_new_l ((w.alloc (.cells #[.slice a n cap] 22)).alloc (.cells #[.nilIface] 26)) (.slice a n cap) 22
  simp only [World.size_alloc] at hc1 hc2
  have hB0 : Below w.heap.size w (((w.alloc (.cells #[.slice a n cap] 22)).alloc (.cells #[.nilIface] 26)).alloc (.cells #[.slice a n cap] 22)) := (((Below.refl _ w).alloc (Nat.le_refl _) _).alloc (by simp) _).alloc (by simp; omega) _
  have hC0 := cell_alloc_l (.cells #[.slice a n cap] 22) (cell_alloc_l (.cells #[.nilIface] 26) hc0.1)
  have hC1 := cell_alloc_l (.cells #[.slice a n cap] 22) hc1.1
  have hF1 := frozen_alloc_l (.cells #[.slice a n cap] 22) hc1.1 hc1.2
  have hsz : (((w.alloc (.cells #[.slice a n cap] 22)).alloc (.cells #[.nilIface] 26)).alloc (.cells #[.slice a n cap] 22)).heap.size = w.heap.size + 3 := by simp
  obtain ⟨W0, hW0⟩ : ∃ W0, (((w.alloc (.cells #[.slice a n cap] 22)).alloc (.cells #[.nilIface] 26)).alloc (.cells #[.slice a n cap] 22)) = W0 := ⟨_, rfl⟩
  rw [hW0] at hc2 hB0 hC0 hC1 hF1 hsz ⊢
  clear hc0 hc1 hW0
  refine wpIn_rangeFunc_ownH (F := Fence.wide) rfl (by omega) (gf := 23) (lb := #[.pointer (some ⟨w.heap.size + 1 + 1, 0, none⟩)]) rfl trivial (enters_of Tryd.func23 (by kernel_rfl) rfl)
    (Each_stops Fence.wide _ trivial rfl (by omega) (w.heap.size + 1 + 1) a n cap ra rc (fun i => (rows.getD i []).length) (fun i j x => x = (rows.getD i []).getD j 0) (by omega) (fun i hi => by rw [HSQ.out.2 i hi]; omega) (Below w.heap.size) (HKP.out) W0 (by omega) hc2.1 (fun W h => HSH.out W (hB0.trans (h.mono (by omega)))))
    belowK_t (fun W l o o' hl h _ _ => (Below.refl w.heap.size W).grown (grownBy_putObj' W l o') (by have := (Array.getElem?_eq_some_iff.1 h).1; omega) (fun k e => by cases e; omega)) (Below.refl _ _) (fun _ => rfl)
    (fun pre W => (W.cell? ⟨w.heap.size, 0, none⟩ = some (.slice a n cap) ∧ W.cell? ⟨w.heap.size + 1, 0, none⟩ = some .nilIface ∧ W.frozen? ⟨w.heap.size + 1, 0, none⟩ = false) ∧ (EachGood (skewAt rows) pre ∧ Below w.heap.size w W))
    (fun c pre W => (c = .ret ∧ EachBad (skewAt rows) pre ∧ W.cell? ⟨w.heap.size + 1, 0, none⟩ = some (.iface 34 (.int .i64 6))) ∧ Below w.heap.size w W)
    ?hI ?hIx ?h0
    (fun x a' W => ∃ Bx, W.cell? ⟨Bx, 0, none⟩ = some (.int .i64 x.1.1) ∧ W.cell? ⟨Bx, 1, none⟩ = some (.int .i64 x.1.2.1) ∧ a' = { tmps := #[.slice a n cap, .pointer (some ⟨w.heap.size, 0, none⟩), .pointer (some ⟨w.heap.size + 1, 0, none⟩), .nilIface, .pointer (some ⟨Bx, 0, none⟩), .int .i64 x.1.2.2, .slice a n cap, .nilIface, .nilIface, .bool false, undef, .slice a n cap, .func (.func 23) #[] #[.pointer (some ⟨w.heap.size + 1 + 1, 0, none⟩)], .agg #[.int .i64 x.1.1, .int .i64 x.1.2.1], .int .i64 x.1.2.2, undef, undef, undef, undef, undef, undef, undef, undef, undef, undef, undef, undef, undef], defers := [] }) ?hAx ?assign ?body ?done ?stop
  case hI => exact OwnFrom.and (Own.from (fun s A B row hs hg hr => ⟨cell_kept hs.1 hg hr, cell_kept hs.2.1 hg hr, (frozen_kept hs.2.1 hg hr).trans hs.2.2⟩) _) (OwnFrom.and (ownFrom_pure _ _) (ownFrom_below (by omega) (by omega)))
  case hIx => exact fun c => OwnFrom.and (Own.from (fun s A B row hs hg hr => ⟨hs.1, hs.2.1, cell_kept hs.2.2 hg hr⟩) _) (ownFrom_below (by omega) (by omega))
  case h0 => exact ⟨⟨hC0, hC1, hF1⟩, EachGood.nil _, hB0⟩
  case hAx => exact fun x a' => Own.from (fun s A B row ⟨Bx, h2, h3, h4⟩ hg hr => ⟨Bx, cell_kept h2 hg hr, cell_kept h3 hg hr, h4⟩) _
  case assign =>
    rintro l pre x W K ⟨⟨hb0, hb1, hb1f⟩, hpre, hbel⟩ hK
    have HK := Lib.hid hK
    have HP := Lib.hid hpre
    have HB := Lib.hid (show _ ∧ _ ∧ _ from ⟨hb0, hb1, hb1f⟩)
    have hz := hbel.size
    clear hK hpre hb0 hb1 hb1f
    rw [show encT x = #[.agg #[.int .i64 (x.1.1 : Int), .int .i64 (x.1.2.1 : Int)], .int .i64 x.1.2.2] from rfl]
    gi_wp2
    refine HK.out _ _ ((KeepsOthers.alloc _ _).from _) ((Below.refl _ W).alloc hz _) ⟨⟨cell_alloc_l _ HB.out.1, cell_alloc_l _ HB.out.2.1, frozen_alloc_l _ HB.out.2.1 HB.out.2.2⟩, HP.out, hbel.alloc hz _⟩ ⟨W.heap.size, ?_, ?_, rfl⟩
    · go_simp
    · go_simp
  case body =>
    rintro l pre x a' W hl ⟨r, hr⟩ ⟨⟨hb0, hb1, hb1f⟩, hpre, hbel⟩ ⟨Bx, hx0, hx1, rfl⟩ hlt
    have HP := Lib.hid hpre
    have HHR := Lib.hid hr
    have hB1 : w.heap.size < W.heap.size := World.block_lt_of_cell? _ _ hb0
    have hB1' : w.heap.size + 1 < W.heap.size := World.block_lt_of_cell? _ _ hb1
    have HB := Lib.hid (show _ ∧ _ ∧ _ from ⟨hb0, hb1, hb1f⟩)
    have hB2 : Bx < W.heap.size := World.block_lt_of_cell? _ _ hx0
    have HX := Lib.hid x.2
    have hi : x.1.1 < n := HX.out.1
    have hj : x.1.2.1 < n := by have := HX.out.2.1; dsimp only at this; rw [HSQ.out.2 _ hi] at this; exact this
    obtain ⟨b, off, rfl, hbw⟩ := HR.out.some (by omega)
    obtain ⟨b2, off2, rc2, hh, he⟩ := (HR.out).elem (i := x.1.2.1) hj (j := x.1.1) (by rw [HSQ.out.2 _ hj]; exact hi)
    rw [HSQ.out.2 _ hj] at hh
    have hlt2 : b2 < w.heap.size := World.block_lt_of_cell? _ _ he
    rw [← hbel.cell (p := ⟨b, off + x.1.2.1, none⟩) hbw] at hh
    rw [← hbel.cell (p := ⟨b2, off2 + x.1.1, none⟩) hlt2] at he
    have hsz := hbel.size
    have hbW : b < W.heap.size := by omega
    have hb2W : b2 < W.heap.size := by omega
    obtain ⟨y, hy⟩ : ∃ y, y = (rows.getD x.1.2.1 []).getD x.1.1 0 := ⟨_, rfl⟩
    rw [← hy] at he
    have hbd : -9 ≤ x.1.2.2 ∧ x.1.2.2 ≤ 9 := by rw [HX.out.2.2]; exact HN.out x.1.1 x.1.2.1
    obtain ⟨hv1, hv2⟩ := hbd
    have hw : IntKind.i64.wrap (-x.1.2.2) = -x.1.2.2 := IntWalk.i64_in _ (by omega)
    have hi0 : (0 : Int) ≤ x.1.1 := by omega
    have hj0 : (0 : Int) ≤ x.1.2.1 := by omega
    have hi1 : (x.1.1 : Int) < n := by omega
    have hj1 : (x.1.2.1 : Int) < n := by omega
    have HY := Lib.hid hy
    clear hy hr
    gi_wp2
    by_cases hyx : y = -x.1.2.2
    · have hyb : (y != -x.1.2.2) = false := by simp [hyx]
      have HYX := Lib.hid hyx
      clear hyx
      refine wpIn_region_quietR (C := Cls W.heap.size W) (by kernel_rfl) (by kernel_rfl) (by kernel_rfl) Cls.start ?_
      repeat
        (refine wpQuietIn_step (fun _ _ _ _ => trivial) (fun K hK => ?_)
         go_simp
         first
           | (refine hK _ ?_; clear hK K)
           | (apply Exists.intro
              refine ⟨fun w' hC => ?_, hK _ ?_⟩
              · (obtain ⟨hr, hr2⟩ := hC.rules
                 first
                   | (fail)
                   | (go_simp; done)
                   | (go_simp; rfl))
              clear hK K))
      refine wpQuietIn_nil ?_
      intro w2 hw2
      obtain ⟨hcc, hff⟩ := hw2.rules
      gi_wp2
      refine ⟨⟨hw2.size, fun k o hk hko _ => (hw2.block k (Array.getElem?_eq_some_iff.1 hko).1).trans hko⟩, hw2.mono hsz, ⟨⟨by rw [hcc _ _ hB1]; exact HB.out.1, by rw [hcc _ _ hB1']; exact HB.out.2.1, by rw [hff _ _ hB1']; exact HB.out.2.2⟩, EachGood.snoc HP.out (HY.out.symm.trans (HYX.out.trans (congrArg (- ·) HX.out.2.2))), hbel.trans (hw2.mono hsz)⟩⟩
    · have hyb : (y != -x.1.2.2) = true := by simp [hyx]
      have HYX := Lib.hid hyx
      clear hyx
      refine wpIn_region_quietR (C := Cls W.heap.size W) (by kernel_rfl) (by kernel_rfl) (by kernel_rfl) Cls.start ?_
      repeat
        (refine wpQuietIn_step (fun _ _ _ _ => trivial) (fun K hK => ?_)
         go_simp
         first
           | (refine hK _ ?_; clear hK K)
           | (apply Exists.intro
              refine ⟨fun w' hC => ?_, hK _ ?_⟩
              · (obtain ⟨hr, hr2⟩ := hC.rules
                 first
                   | (fail)
                   | (go_simp; done)
                   | (go_simp; rfl))
              clear hK K))
      refine wpQuietIn_nil ?_
      intro w2 hw2
      obtain ⟨hcc, hff⟩ := hw2.rules
      gi_wp2
      refine ⟨(show KeepsOthers W w2 from ⟨hw2.size, fun k o hk hko => (hw2.block k (Array.getElem?_eq_some_iff.1 hk).1).trans hk⟩).trans (KeepsOthers.setCell _ _ _) |>.from _, ⟨rfl, EachBad.snoc (fun h => HYX.out (HY.out.trans (Eq.trans h (congrArg (- ·) HX.out.2.2.symm)))), World.cell?_setCell_same' _ _ _ (by rw [hcc _ _ hB1', HB.out.2.1]; rfl)⟩, (hbel.trans (hw2.mono hsz)).setCell (p := ⟨w.heap.size + 1, 0, none⟩) (by simp) _⟩
  case done =>
    rintro D xs W hD hS ⟨⟨hb0, hb1, hb1f⟩, hpre, hbel⟩ hK
    have HP := Lib.hid hpre
    have HS := Lib.hid hS
    clear hpre hS
    gi_wp2
    have hK' := (KeepsOthers.setCell W ⟨w.heap.size + 1, 0, none⟩ .nilIface).same D _ hK rfl
    refine ⟨by simp, .inl ⟨_, _, rfl, run_takeDeferred hK', ?_⟩⟩
    have hc5 := cell_kept (World.cell?_setCell_same' W ⟨w.heap.size + 1, 0, none⟩ .nilIface (by rw [hb1]; rfl)) (grownBy_putObj' _ D (.deferred none)) (fun r e => by cases e; exact ⟨_, hK', rfl⟩)
    refine ⟨.nilIface, by simp [results, Tryd.f6, go_sem, hc5], ?_, (hbel.setCell (p := ⟨w.heap.size + 1, 0, none⟩) (by simp) _).trans (belowK_b (w := w) (Nat.le_refl _) _ D _ _ (by omega) hK' rfl rfl)⟩
    have hb : skewB rows = true := by
      unfold skewB
      rw [HL.out]
      refine List.all_eq_true.2 fun i hi => List.all_eq_true.2 fun j hj => ?_
      rw [List.mem_range] at hi hj
      have := HP.out.all HS.out hi (by rw [HSQ.out.2 i hi]; exact hj)
      simpa [skewAt] using this
    rw [show skErr rows = 0 by unfold skErr; rw [if_neg (by rw [HE.out]; decide), if_pos hb]]
    rfl
  case stop =>
    rintro D c pre W hD hpre ⟨⟨rfl, hbad, hcr⟩, hbel⟩ hK
    have HX := Lib.hid hbad
    clear hbad
    gi_wp2
    refine ⟨by simp, .inl ⟨_, _, rfl, run_takeDeferred hK, ?_⟩⟩
    have hc5 := cell_kept hcr (grownBy_putObj' _ D (.deferred none)) (fun r e => by cases e; exact ⟨_, hK, rfl⟩)
    refine ⟨.iface 34 (.int .i64 6), by simp [results, Tryd.f6, go_sem, hc5], ?_, hbel.trans (belowK_b (w := w) (Nat.le_refl _) W D _ _ (by omega) hK rfl rfl)⟩
    have hb : skewB rows = false := by
      obtain ⟨i, j, hi, hj, hne⟩ := HX.out.some
      refine Bool.eq_false_iff.2 fun hb => hne ?_
      rw [HSQ.out.2 _ hi] at hj
      unfold skewB at hb
      rw [HL.out] at hb
      have := List.all_eq_true.1 (List.all_eq_true.1 hb i (List.mem_range.2 hi)) j (List.mem_range.2 hj)
      simpa [skewAt] using this
    rw [show skErr rows = 6 by unfold skErr; rw [if_neg (by rw [HE.out]; decide), if_neg (by rw [hb]; decide)]]
    rfl
end Go.Proofs.YtkcgcedldjcfjaaDoor
