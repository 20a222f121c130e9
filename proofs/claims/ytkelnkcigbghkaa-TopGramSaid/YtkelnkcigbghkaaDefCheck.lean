/- Contracts of definite.Check, Is and At at forms that are right. -/
import Derived.Test.YtkelnkcigbghkaaEach
import Derived.Test.YtkelnkcigbghkaaRound
import Derived.Test.YtkelnkcigbghkaaTail
import Derived.Test.YtkelnkcigbghkaaLeading
import Derived.Test.YtkelnkcigbghkaaErrMath
import Derived.BigRegion
namespace Go.Proofs.Ytkelnkcigbghkaa
open Go.RowKit Go.Shelf
set_option linter.unusedVariables false
set_option linter.unusedSimpArgs false
attribute [local go_sem] Oper.semAt_some

/-- the same across the middle -/
def symAt (rows : List (List Int)) (i j : Nat) : Prop := (rows.getD j []).getD i 0 = (rows.getD i []).getD j 0

set_option maxHeartbeats 1000000 in
theorem DefCheck_good (a : Option Addr) (n cap : Nat) (rows : List (List Int)) (w : World) (hr : RowsAt w a n rows) (hs : Small n rows) (he : sqErr rows 4 (-9) 9 = 0) (hsym : ∀ i j, i < n → j < n → symAt rows i j) :
    Calls Try.prog 12 #[.slice a n cap] w fun e w' => e = .returned .nilIface ∧ Below w.heap.size w w' := by
  have hG := fun w (hr : RowsAt w a n rows) => Square_any a n cap rows 4 (-9) 9 w hr (by omega) (by omega) hs.1 hs.2
  have HR := Lib.hid hr
  have hsq := good_sq he
  have hl := hr.1
  obtain ⟨hg1, hg2, hg3⟩ := sqErr_good he
  rw [hl] at hsq hg2
  obtain ⟨ra, rc, hsh, hkp⟩ := rows_each hr
  rw [he, show errV 0 = .nilIface from rfl] at hG
  have HSY := Lib.hid hsym
  have HSQ := Lib.hid hsq
  have HSH := Lib.hid hsh
  have HKP := Lib.hid hkp
  have HL := Lib.hid hl
  clear he hr hs hsq hg1 hg3 hsh hkp hl hsym
  refine (callsIn_wide (n := 9)).1 ?_
  refine callsIn_of_wp_marks Try.func12 rfl trivial ?_ rfl
  simp only [Try.ntmps12, List.size_toArray, List.length_cons, List.length_nil, Nat.reduceAdd, Nat.reduceSub, Array.replicate_succ, Array.replicate_zero, List.push_toArray, List.append_toArray, List.nil_append, List.cons_append]
  gi_wp2
  refine ⟨trivial, (callsIn_wide.2 (hG _ (HR.out.call (((Below.refl _ w).alloc (Nat.le_refl _) _).alloc (by simp) _)))).mono ?_⟩
  rintro e w1 ⟨rfl, rfl⟩
  gi_wp2
  refine ⟨trivial, (Each_in Fence.wide _ trivial rfl a n cap _).mono ?_⟩
  rintro e w1 ⟨rfl, rfl⟩
  gi_wp2
  have hc0 := cell_new_l w (.slice a n cap) 31
  have hc1 := cell_new_l (w.alloc (.cells #[.slice a n cap] 31)) .nilIface 25
  have hc2 := cell_new_l ((w.alloc (.cells #[.slice a n cap] 31)).alloc (.cells #[.nilIface] 25)) (.slice a n cap) 31
  simp only [World.size_alloc] at hc1 hc2
  have hB0 : Below w.heap.size w (((w.alloc (.cells #[.slice a n cap] 31)).alloc (.cells #[.nilIface] 25)).alloc (.cells #[.slice a n cap] 31)) := (((Below.refl _ w).alloc (Nat.le_refl _) _).alloc (by simp) _).alloc (by simp; omega) _
  have hC0 := cell_alloc_l (.cells #[.slice a n cap] 31) (cell_alloc_l (.cells #[.nilIface] 25) hc0.1)
  have hC1 := cell_alloc_l (.cells #[.slice a n cap] 31) hc1.1
  have hF1 := frozen_alloc_l (.cells #[.slice a n cap] 31) hc1.1 hc1.2
  have hsz : (((w.alloc (.cells #[.slice a n cap] 31)).alloc (.cells #[.nilIface] 25)).alloc (.cells #[.slice a n cap] 31)).heap.size = w.heap.size + 3 := by simp
  obtain ⟨W0, hW0⟩ : ∃ W0, (((w.alloc (.cells #[.slice a n cap] 31)).alloc (.cells #[.nilIface] 25)).alloc (.cells #[.slice a n cap] 31)) = W0 := ⟨_, rfl⟩
  rw [hW0] at hc2 hB0 hC0 hC1 hF1 hsz ⊢
  clear hc0 hc1 hW0
  refine wpIn_rangeFunc_ownH (F := Fence.wide) rfl (by omega) (gf := 22) (lb := #[.pointer (some ⟨w.heap.size + 1 + 1, 0, none⟩)]) rfl trivial (enters_of Try.func22 (by kernel_rfl) rfl)
    (Each_stops Fence.wide _ trivial rfl (by omega) (w.heap.size + 1 + 1) a n cap ra rc (fun i => (rows.getD i []).length) (fun i j x => x = (rows.getD i []).getD j 0) (by omega) (fun i hi => by rw [HSQ.out.2 i hi]; omega) (Below w.heap.size) (HKP.out) W0 (by omega) hc2.1 (fun W h => HSH.out W (hB0.trans (h.mono (by omega)))))
    belowK_t (fun W l o o' hl h _ _ => (Below.refl w.heap.size W).grown (grownBy_putObj' W l o') (by have := (Array.getElem?_eq_some_iff.1 h).1; omega) (fun k e => by cases e; omega)) (Below.refl _ _) (fun _ => rfl)
    (fun pre W => (W.cell? ⟨w.heap.size, 0, none⟩ = some (.slice a n cap) ∧ W.cell? ⟨w.heap.size + 1, 0, none⟩ = some .nilIface ∧ W.frozen? ⟨w.heap.size + 1, 0, none⟩ = false) ∧ Below w.heap.size w W)
    (fun c pre W => False)
    ?hI ?hIx ?h0
    (fun x a' W => ∃ Bx, W.cell? ⟨Bx, 0, none⟩ = some (.int .i64 x.1.1) ∧ W.cell? ⟨Bx, 1, none⟩ = some (.int .i64 x.1.2.1) ∧ a' = { tmps := #[.slice a n cap, .pointer (some ⟨w.heap.size, 0, none⟩), .pointer (some ⟨w.heap.size + 1, 0, none⟩), .nilIface, .pointer (some ⟨Bx, 0, none⟩), .int .i64 x.1.2.2, .slice a n cap, .nilIface, .nilIface, .bool false, undef, .slice a n cap, .func (.func 22) #[] #[.pointer (some ⟨w.heap.size + 1 + 1, 0, none⟩)], .agg #[.int .i64 x.1.1, .int .i64 x.1.2.1], .int .i64 x.1.2.2, undef, undef, undef, undef, undef, undef, undef, undef, undef, undef, undef, undef], defers := [] }) ?hAx ?assign ?body ?done ?stop
  case hI => exact OwnFrom.and (Own.from (fun s A B row hs hg hr => ⟨cell_kept hs.1 hg hr, cell_kept hs.2.1 hg hr, (frozen_kept hs.2.1 hg hr).trans hs.2.2⟩) _) (ownFrom_below (by omega) (by omega))
  case hIx => exact fun c s A B row hs hg hr => hs
  case h0 => exact ⟨⟨hC0, hC1, hF1⟩, hB0⟩
  case hAx => exact fun x a' => Own.from (fun s A B row ⟨Bx, h2, h3, h4⟩ hg hr => ⟨Bx, cell_kept h2 hg hr, cell_kept h3 hg hr, h4⟩) _
  case assign =>
    rintro l pre x W K ⟨⟨hb0, hb1, hb1f⟩, hbel⟩ hK
    have HK := Lib.hid hK
    have HB := Lib.hid (show _ ∧ _ ∧ _ from ⟨hb0, hb1, hb1f⟩)
    have hz := hbel.size
    clear hK hb0 hb1 hb1f
    rw [show encT x = #[.agg #[.int .i64 (x.1.1 : Int), .int .i64 (x.1.2.1 : Int)], .int .i64 x.1.2.2] from rfl]
    gi_wp2
    refine HK.out _ _ ((KeepsOthers.alloc _ _).from _) ((Below.refl _ W).alloc hz _) ⟨⟨cell_alloc_l _ HB.out.1, cell_alloc_l _ HB.out.2.1, frozen_alloc_l _ HB.out.2.1 HB.out.2.2⟩, hbel.alloc hz _⟩ ⟨W.heap.size, ?_, ?_, rfl⟩
    · go_simp
    · go_simp
  case body =>
    rintro l pre x a' W hl ⟨r, hr⟩ ⟨⟨hb0, hb1, hb1f⟩, hbel⟩ ⟨Bx, hx0, hx1, rfl⟩ hlt
    have HHR := Lib.hid hr
    have hB1 : w.heap.size < W.heap.size := World.block_lt_of_cell? _ _ hb0
    have hB1' : w.heap.size + 1 < W.heap.size := World.block_lt_of_cell? _ _ hb1
    have HB := Lib.hid (show _ ∧ _ ∧ _ from ⟨hb0, hb1, hb1f⟩)
    have hB2 : Bx < W.heap.size := World.block_lt_of_cell? _ _ hx0
    have HX := Lib.hid x.2
    have hi : x.1.1 < n := HX.out.1
    have hj : x.1.2.1 < n := by have := HX.out.2.1; dsimp only at this; rw [HSQ.out.2 _ hi] at this; exact this
    obtain ⟨b, off, rfl, hbw⟩ := HR.out.some (by omega)
    obtain ⟨b2, off2, rc2, hh, he⟩ := (HR.out).elem (i := x.1.2.1) hj (j := x.1.1) (by rw [HSQ.out.2 _ hj]; exact hi)
    rw [HSQ.out.2 _ hj] at hh
    have hlt2 : b2 < w.heap.size := World.block_lt_of_cell? _ _ he
    rw [← hbel.cell (p := ⟨b, off + x.1.2.1, none⟩) hbw] at hh
    rw [← hbel.cell (p := ⟨b2, off2 + x.1.1, none⟩) hlt2] at he
    have hsz := hbel.size
    have hbW : b < W.heap.size := by omega
    have hb2W : b2 < W.heap.size := by omega
    have hyx : (rows.getD x.1.2.1 []).getD x.1.1 0 = x.1.2.2 := by
      have h1 := HSY.out x.1.1 x.1.2.1 hi hj
      exact Eq.trans h1 HX.out.2.2.symm
    rw [hyx] at he
    have hyb : (x.1.2.2 != x.1.2.2) = false := by simp
    have hi0 : (0 : Int) ≤ x.1.1 := by omega
    have hj0 : (0 : Int) ≤ x.1.2.1 := by omega
    have hi1 : (x.1.1 : Int) < n := by omega
    have hj1 : (x.1.2.1 : Int) < n := by omega
    clear hyx hr
    gi_wp2
    refine wpIn_region_quietR (C := Cls W.heap.size W) (by kernel_rfl) (by kernel_rfl) (by kernel_rfl) Cls.start ?_
    repeat
      (refine wpQuietIn_step (fun _ _ _ _ => trivial) (fun K hK => ?_)
       go_simp
       first
         | (refine hK _ ?_; clear hK K)
         | (apply Exists.intro
            refine ⟨fun w' hC => ?_, hK _ ?_⟩
            · (obtain ⟨hr, hr2⟩ := hC.rules
               first
                 | (fail)
                 | (go_simp; done)
                 | (go_simp; rfl))
            clear hK K))
    refine wpQuietIn_nil ?_
    intro w2 hw2
    obtain ⟨hcc, hff⟩ := hw2.rules
    gi_wp2
    refine ⟨⟨hw2.size, fun k o hk hko _ => (hw2.block k (Array.getElem?_eq_some_iff.1 hko).1).trans hko⟩, hw2.mono hsz, ⟨⟨by rw [hcc _ _ hB1]; exact HB.out.1, by rw [hcc _ _ hB1']; exact HB.out.2.1, by rw [hff _ _ hB1']; exact HB.out.2.2⟩, hbel.trans (hw2.mono hsz)⟩⟩
  case done =>
    rintro D xs W hD hS ⟨⟨hb0, hb1, hb1f⟩, hbel⟩ hK
    have HS := Lib.hid hS
    clear hS
    gi_wp2
    have hK' := (KeepsOthers.setCell W ⟨w.heap.size + 1, 0, none⟩ .nilIface).same D _ hK rfl
    refine ⟨by simp, .inl ⟨_, _, rfl, run_takeDeferred hK', ?_⟩⟩
    have hc5 := cell_kept (World.cell?_setCell_same' W ⟨w.heap.size + 1, 0, none⟩ .nilIface (by rw [hb1]; rfl)) (grownBy_putObj' _ D (.deferred none)) (fun r e => by cases e; exact ⟨_, hK', rfl⟩)
    exact ⟨.nilIface, by simp [results, Try.f12, go_sem, hc5], rfl, (hbel.setCell (p := ⟨w.heap.size + 1, 0, none⟩) (by simp) _).trans (belowK_b (w := w) (Nat.le_refl _) _ D _ _ (by omega) hK' rfl rfl)⟩
  case stop =>
    intro D c pre W hD hpre h hK
    exact h.elim

theorem sq45 {rows : List (List Int)} (h : sqErr rows 4 (-9) 9 = 0) : sqErr rows 5 (-9) 9 = 0 := by
  unfold sqErr matErr at *
  repeat' split at h
  all_goals first | (cases h; done) | skip
  all_goals (repeat' split) <;> first | rfl | omega | assumption | (exfalso; simp_all; done) | (exfalso; simp_all; omega)

set_option maxHeartbeats 1000000 in
theorem DefIs_good (a : Option Addr) (n cap : Nat) (rows : List (List Int)) (w : World) (hr : RowsAt w a n rows) (hcap : n ≤ cap) (hs : Small n rows) (he : sqErr rows 4 (-9) 9 = 0) (hsym : ∀ i j, i < n → j < n → symAt rows i j) (hpos : ∀ k, k < n → 0 < G (-1) (k + 1) (fn rows)) :
    Calls Try.prog 5 #[.slice a n cap] w fun e w' => e = .returned (.tuple #[.bool true, .nilIface]) ∧ Below w.heap.size w w' := by
  have hC := fun W (h : RowsAt W a n rows) => DefCheck_good a n cap rows W h hs he hsym
  have hL := fun W (h : RowsAt W a n rows) => Leading_good a n cap rows W h hcap hs (sq45 he)
  obtain ⟨hg1, hg2, hg3⟩ := sqErr_good he
  rw [hr.1] at hg2
  have HC := Lib.hid hC
  have HL := Lib.hid hL
  have HR := Lib.hid hr
  have HP := Lib.hid hpos
  clear hC hL hr hs he hsym hpos hg1 hg3
  go_enter Try.func5, Try.ntmps5
  go_wp2_with fail
  go_at_call 12
  refine (HC.out _ HR.out).mono ?_
  rintro e w1 ⟨rfl, hb1⟩
  go_wp2_with fail
  go_wp2_with fail
  go_at_call 7
  refine (HL.out _ (HR.out.call hb1)).mono ?_
  rintro e w2 ⟨⟨v, rfl, hown⟩, hb2⟩
  obtain ⟨a2, c2, rfl, h1, h2, h3, h4⟩ := hown.shape
  rw [leadL_len] at h4 ⊢
  have HI := Lib.hid h4
  have hbb := below_trans hb1 hb2
  clear hown h1 h2 h3 h4
  go_wp2_with fail
  go_loopg [21] (n + 1) (fun g i wr => ∃ k : Nat, k ≤ n ∧ n - k < g ∧ i = .int .i64 k ∧ wr = w2)
  case atStart => exact ⟨0, by omega, by omega, rfl, rfl⟩
  case round =>
    obtain ⟨k, hk, hg, rfl, hw⟩ := hrel
    subst hw
    by_cases hlt : k < n
    · obtain ⟨b, off, rfl, hcell⟩ := HI.out.2 k hlt
      have hx : (leadL rows n).getD k 0 = G (-1) (k + 1) (fn rows) := by simp [leadL, List.getD, hlt]
      rw [hx] at hcell
      have hp := HP.out k hlt
      generalize G (-1) (k + 1) (fn rows) = D at *
      have hki : (k : Int) < n := by omega
      clear hx
      go_wp2_with fail
      go_roundg (n - k)
      case measure => omega
      case rel => exact ⟨k + 1, by omega, by omega, by go_num, rfl⟩
    · obtain rfl : k = n := by omega
      go_wp2_with fail
      go_ret2
      exact ⟨rfl, hbb⟩
end Go.Proofs.Ytkelnkcigbghkaa
