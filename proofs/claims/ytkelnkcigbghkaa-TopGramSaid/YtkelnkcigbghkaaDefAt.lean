/- Contract of definite.At at a form that is right. -/
import Derived.Test.YtkelnkcigbghkaaDefCheck
import Derived.Test.YtkelnkcigbghkaaAny
import Derived.Test.YtkelnkcigbghkaaLatC
namespace Go.Proofs.Ytkelnkcigbghkaa
open Go.RowKit Go.Shelf
set_option linter.unusedVariables false
set_option linter.unusedSimpArgs false
attribute [local go_sem] Oper.semAt_some

/-- the sum over the places that have come -/
def sumPl (rows : List (List Int)) (xs : List Int) : List (Nat × Nat) → Int
  | [] => 0
  | p :: ps => fn rows p.1 p.2 * xs.getD p.1 0 * xs.getD p.2 0 + sumPl rows xs ps
theorem sumPl_snoc (rows : List (List Int)) (xs : List Int) (l : List (Nat × Nat)) (p : Nat × Nat) : sumPl rows xs (l ++ [p]) = sumPl rows xs l + fn rows p.1 p.2 * xs.getD p.1 0 * xs.getD p.2 0 := by
  induction l with
  | nil => simp [sumPl]
  | cons q l ih => rw [List.cons_append, sumPl, sumPl, ih]; omega
theorem mul3_bd {a b c : Int} (h1 : -9 ≤ a ∧ a ≤ 9) (h2 : -100 ≤ b ∧ b ≤ 100) (h3 : -100 ≤ c ∧ c ≤ 100) : (-900 ≤ a * b ∧ a * b ≤ 900) ∧ -90000 ≤ a * b * c ∧ a * b * c ≤ 90000 := by
  have h4 := mul_bd a b 9 100 h1.1 h1.2 h2.1 h2.2
  have h5 := mul_bd (a * b) c 900 100 (by omega) (by omega) h3.1 h3.2
  omega
theorem sumPl_bd {rows : List (List Int)} {xs : List Int} (hr : Ent 9 rows) (hx : ∀ i, -100 ≤ xs.getD i 0 ∧ xs.getD i 0 ≤ 100) (l : List (Nat × Nat)) : -(90000 * (l.length : Int)) ≤ sumPl rows xs l ∧ sumPl rows xs l ≤ 90000 * (l.length : Int) := by
  induction l with
  | nil => simp [sumPl]
  | cons p l ih =>
    have := (mul3_bd (hr p.1 p.2) (hx p.1) (hx p.2)).2
    have e : fn rows p.1 p.2 = (rows.getD p.1 []).getD p.2 0 := rfl
    rw [sumPl, List.length_cons, e]
    omega

set_option maxHeartbeats 1000000 in
theorem DefAt_good (a ax : Option Addr) (n cap capx : Nat) (rows : List (List Int)) (xs : List Int) (w : World) (hr : RowsAt w a n rows) (hx : IntsAt w ax n xs) (hs : Small n rows) (he : sqErr rows 4 (-9) 9 = 0) (hsym : ∀ i j, i < n → j < n → symAt rows i j) (hxo : anyOut (-100) 100 xs = false) (hxb : ∀ i, -100 ≤ xs.getD i 0 ∧ xs.getD i 0 ≤ 100) :
    Calls Try.prog 8 #[.slice a n cap, .slice ax n capx] w fun e w' => e = .returned (.tuple #[.int .i64 (sumPl rows xs (allPl (fun _ => n) n)), .nilIface]) ∧ Below w.heap.size w w' := by
  have hC := fun W (h : RowsAt W a n rows) => DefCheck_good a n cap rows W h hs he hsym
  have HR := Lib.hid hr
  have HXS := Lib.hid hx
  have hsq := good_sq he
  have hent := good_ent (B := 9) (by omega) he
  have hl := hr.1
  obtain ⟨hg1, hg2, hg3⟩ := sqErr_good he
  rw [hl] at hsq hg2 hg1
  have hA := fun W (h : IntsAt W ax n xs) => Any_any ax n capx xs (-100) 100 W h (by omega)
  rw [hxo] at hA
  obtain ⟨ra, rc, hsh, hkp⟩ := rows_each hr
  have HSQ := Lib.hid hsq
  have HENT := Lib.hid hent
  have HSH := Lib.hid hsh
  have HKP := Lib.hid hkp
  have HL := Lib.hid hl
  have HC := Lib.hid hC
  have HA := Lib.hid hA
  have HXB := Lib.hid hxb
  have hnn : ((n : Int) != (n : Int)) = false := by simp
  clear he hr hs hsq hg3 hsh hkp hl hsym hx hC hA hxo hent hxb
  refine (callsIn_wide (n := 9)).1 ?_
  refine callsIn_of_wp_marks Try.func8 rfl trivial ?_ rfl
  simp only [Try.ntmps8, List.size_toArray, List.length_cons, List.length_nil, Nat.reduceAdd, Nat.reduceSub, Array.replicate_succ, Array.replicate_zero, List.push_toArray, List.append_toArray, List.nil_append, List.cons_append]
  gi_wp2
  refine ⟨trivial, (callsIn_wide.2 (HC.out _ (HR.out.call ((Below.refl _ w).alloc (Nat.le_refl _) _)))).mono ?_⟩
  rintro e w1 ⟨rfl, hb1⟩
  have hBx : w1.cell? ⟨w.heap.size, 0, none⟩ = some (.slice ax n capx) := by rw [hb1.cell (p := ⟨w.heap.size, 0, none⟩) (by simp)]; simp
  have hB1 : Below w.heap.size w w1 := ((Below.refl _ w).alloc (Nat.le_refl _) _).trans (hb1.mono (by simp))
  have hlx : w.heap.size < w1.heap.size := World.block_lt_of_cell? _ _ hBx
  clear hb1
  gi_wp2
  refine ⟨trivial, (callsIn_wide.2 (HA.out _ (HXS.out.call hB1))).mono ?_⟩
  rintro e w2 ⟨rfl, rfl⟩
  gi_wp2
  refine ⟨trivial, (Each_in Fence.wide _ trivial rfl a n cap _).mono ?_⟩
  rintro e w2 ⟨rfl, rfl⟩
  gi_wp2
  have hc0 := cell_new_l w1 (.int .i64 0) 3
  have hc1 := cell_new_l (w1.alloc (.cells #[.int .i64 0] 3)) (.slice a n cap) 31
  simp only [World.size_alloc] at hc1
  have hBa : Below w1.heap.size w1 ((w1.alloc (.cells #[.int .i64 0] 3)).alloc (.cells #[.slice a n cap] 31)) := ((Below.refl _ w1).alloc (Nat.le_refl _) _).alloc (by simp) _
  have hB0 := below_trans hB1 hBa
  have hC0 := cell_alloc_l (.cells #[.slice a n cap] 31) hc0.1
  have hF0 := frozen_alloc_l (.cells #[.slice a n cap] 31) hc0.1 hc0.2
  have hX0 := cell_alloc_l (.cells #[.slice a n cap] 31) (cell_alloc_l (.cells #[.int .i64 0] 3) hBx)
  have hsz : ((w1.alloc (.cells #[.int .i64 0] 3)).alloc (.cells #[.slice a n cap] 31)).heap.size = w1.heap.size + 2 := by simp
  obtain ⟨W0, hW0⟩ : ∃ W0, ((w1.alloc (.cells #[.int .i64 0] 3)).alloc (.cells #[.slice a n cap] 31)) = W0 := ⟨_, rfl⟩
  rw [hW0] at hc1 hB0 hC0 hF0 hX0 hsz ⊢
  clear hc0 hBa hW0 hBx
  have hz1 := hB1.size
  refine wpIn_rangeFunc_ownH (F := Fence.wide) rfl (by omega) (gf := 22) (lb := #[.pointer (some ⟨w1.heap.size + 1, 0, none⟩)]) rfl trivial (enters_of Try.func22 (by kernel_rfl) rfl)
    (Each_stops Fence.wide _ trivial rfl (by omega) (w1.heap.size + 1) a n cap ra rc (fun i => (rows.getD i []).length) (fun i j x => x = (rows.getD i []).getD j 0) (by omega) (fun i hi => by rw [HSQ.out.2 i hi]; omega) (Below w.heap.size) (HKP.out) W0 (by omega) hc1.1 (fun W h => HSH.out W (hB0.trans (h.mono (by omega)))))
    belowK_t (fun W l o o' hl h _ _ => (Below.refl w.heap.size W).grown (grownBy_putObj' W l o') (by have := (Array.getElem?_eq_some_iff.1 h).1; omega) (fun k e => by cases e; omega)) (Below.refl _ _) (fun _ => rfl)
    (fun pre W => (W.cell? ⟨w.heap.size, 0, none⟩ = some (.slice ax n capx) ∧ W.cell? ⟨w1.heap.size, 0, none⟩ = some (.int .i64 (sumPl rows xs (pre.map pl))) ∧ W.frozen? ⟨w1.heap.size, 0, none⟩ = false) ∧ Below w.heap.size w W)
    (fun c pre W => False)
    ?hI ?hIx ?h0
    (fun x a' W => ∃ Bx, W.cell? ⟨Bx, 0, none⟩ = some (.int .i64 x.1.1) ∧ W.cell? ⟨Bx, 1, none⟩ = some (.int .i64 x.1.2.1) ∧ Bx ≠ w1.heap.size ∧ a' = { tmps := #[.slice a n cap, .slice ax n capx, undef, .pointer (some ⟨w.heap.size, 0, none⟩), .int .i64 0, .nilIface, .nilIface, .pointer (some ⟨w1.heap.size, 0, none⟩), .pointer (some ⟨Bx, 0, none⟩), .int .i64 x.1.2.2, .slice a n cap, .nilIface, .nilIface, .bool false, undef, .bool false, .slice ax n capx, .int .i64 n, .slice a n cap, .int .i64 n, .bool false, undef, .bool false, .slice ax n capx, .bool false, undef, .slice a n cap, .func (.func 22) #[] #[.pointer (some ⟨w1.heap.size + 1, 0, none⟩)], .agg #[.int .i64 x.1.1, .int .i64 x.1.2.1], .int .i64 x.1.2.2, undef, undef, undef, undef, undef, undef, undef, undef, undef, undef, undef, undef, undef, undef, undef, undef], defers := [] }) ?hAx ?assign ?body ?done ?stop
  case hI => exact OwnFrom.and (Own.from (fun s A B row hs hg hr => ⟨cell_kept hs.1 hg hr, cell_kept hs.2.1 hg hr, (frozen_kept hs.2.1 hg hr).trans hs.2.2⟩) _) (ownFrom_below (by omega) (by omega))
  case hIx => exact fun c s A B row hs hg hr => hs
  case h0 => exact ⟨⟨hX0, hC0, hF0⟩, hB0⟩
  case hAx => exact fun x a' => Own.from (fun s A B row ⟨Bx, h2, h3, h4, h5⟩ hg hr => ⟨Bx, cell_kept h2 hg hr, cell_kept h3 hg hr, h4, h5⟩) _
  case assign =>
    rintro l pre x W K ⟨⟨hb0, hb1, hb1f⟩, hbel⟩ hK
    have HK := Lib.hid hK
    have HB := Lib.hid (show _ ∧ _ ∧ _ from ⟨hb0, hb1, hb1f⟩)
    have hz := hbel.size
    have hlW : w1.heap.size < W.heap.size := World.block_lt_of_cell? _ _ hb1
    clear hK hb0 hb1 hb1f
    rw [show encT x = #[.agg #[.int .i64 (x.1.1 : Int), .int .i64 (x.1.2.1 : Int)], .int .i64 x.1.2.2] from rfl]
    gi_wp2
    refine HK.out _ _ ((KeepsOthers.alloc _ _).from _) ((Below.refl _ W).alloc hz _) ⟨⟨cell_alloc_l _ HB.out.1, cell_alloc_l _ HB.out.2.1, frozen_alloc_l _ HB.out.2.1 HB.out.2.2⟩, hbel.alloc hz _⟩ ⟨W.heap.size, ?_, ?_, by omega, rfl⟩
    · go_simp
    · go_simp
  case body =>
    rintro l pre x a' W hl ⟨r, hr⟩ ⟨⟨hb0, hb1, hb1f⟩, hbel⟩ ⟨Bx, hx0, hx1, hBne, rfl⟩ hlt
    have HHR := Lib.hid hr
    have hlW : w1.heap.size < W.heap.size := World.block_lt_of_cell? _ _ hb1
    have HX := Lib.hid x.2
    have hi : x.1.1 < n := HX.out.1
    have hj : x.1.2.1 < n := by have := HX.out.2.1; dsimp only at this; rw [HSQ.out.2 _ hi] at this; exact this
    obtain ⟨b, off, rfl, hbw, hcs⟩ := (HXS.out.call hbel).some (by omega)
    have hci := hcs x.1.1 hi
    have hcj := hcs x.1.2.1 hj
    have hi0 : (0 : Int) ≤ x.1.1 := by omega
    have hj0 : (0 : Int) ≤ x.1.2.1 := by omega
    have hi1 : (x.1.1 : Int) < n := by omega
    have hj1 : (x.1.2.1 : Int) < n := by omega
    have hvv : x.1.2.2 = fn rows x.1.1 x.1.2.1 := HX.out.2.2
    have hv9 : -9 ≤ x.1.2.2 ∧ x.1.2.2 ≤ 9 := by rw [hvv]; exact HENT.out _ _
    have hlen : (pre.map pl).length ≤ 16 := by
      rw [List.length_map]
      have e : (allPl (fun i => (rows.getD i []).length) n).length ≤ 16 := by
        have key : ∀ m, m ≤ n → (allPl (fun i => (rows.getD i []).length) m).length = m * n := by
          intro m
          induction m with
          | zero => intro _; simp [allPl]
          | succ m ih => intro hm; rw [allPl_succ, List.length_append, ih (by omega), HSQ.out.2 m (by omega), Nat.succ_mul]; simp [rowPl]
        rw [key n (Nat.le_refl _)]
        have : n = 0 ∨ n = 1 ∨ n = 2 ∨ n = 3 ∨ n = 4 := by omega
        rcases this with rfl | rfl | rfl | rfl | rfl <;> decide
      omega
    have hSb := sumPl_bd HENT.out HXB.out (pre.map pl)
    have hsn := sumPl_snoc rows xs (pre.map pl) (x.1.1, x.1.2.1)
    have hpl : (pre ++ [x]).map pl = pre.map pl ++ [(x.1.1, x.1.2.1)] := by rw [List.map_append]; rfl
    rw [← hpl] at hsn
    dsimp only at hsn
    rw [← hvv] at hsn
    obtain ⟨S, hS⟩ : ∃ S, S = sumPl rows xs (pre.map pl) := ⟨_, rfl⟩
    obtain ⟨y, hy⟩ : ∃ y, y = xs.getD x.1.1 0 := ⟨_, rfl⟩
    obtain ⟨z, hz⟩ : ∃ z, z = xs.getD x.1.2.1 0 := ⟨_, rfl⟩
    obtain ⟨v, hv⟩ : ∃ v, v = x.1.2.2 := ⟨_, rfl⟩
    have hyb := HXB.out x.1.1
    have hzb := HXB.out x.1.2.1
    rw [← hy] at hci hsn hyb
    rw [← hz] at hcj hsn hzb
    rw [← hS] at hb1 hSb hsn
    rw [← hv] at hv9 hsn ⊢
    obtain ⟨m1, m2⟩ := mul3_bd hv9 hyb hzb
    have hm1 : IntKind.i64.wrap (v * y) = v * y := IntWalk.i64_in _ (by omega)
    have hm2 : IntKind.i64.wrap (v * y * z) = v * y * z := IntWalk.i64_in _ (by omega)
    have hm3 : IntKind.i64.wrap (S + v * y * z) = S + v * y * z := IntWalk.i64_in _ (by omega)
    have HSN := Lib.hid hsn
    have HB := Lib.hid (show _ ∧ _ ∧ _ from ⟨hb0, hb1, hb1f⟩)
    have hsz := hbel.size
    clear hvv hsn hS hy hz hv hpl hyb hzb hSb hr hcs hv9 m1 m2 hlen
    gi_wp2
    refine wpIn_region_still_tailR 15 (by kernel_rfl) (by kernel_rfl) (by kernel_rfl) ?_
    simp only [List.take_succ_cons, List.take_zero, List.drop_succ_cons, List.drop_zero]
    repeat still_step
    try refine wpStill_nil ?_
    gi_wp2
    refine ⟨((KeepsOthers.setCell _ _ _).trans (KeepsOthers.drew _)).from _, ((Below.refl w.heap.size W).setCell (p := ⟨w1.heap.size, 0, none⟩) (by show w.heap.size ≤ w1.heap.size; omega) _).trans Cls.start, ⟨?_, ?_, ?_⟩, (hbel.setCell (p := ⟨w1.heap.size, 0, none⟩) (by show w.heap.size ≤ w1.heap.size; omega) _).trans Cls.start⟩
    · show (W.setCell ⟨w1.heap.size, 0, none⟩ _).cell? _ = _
      rw [World.cell?_setCell_other]
      · exact HB.out.1
      · intro he; injection he with he1; omega
    · show (W.setCell ⟨w1.heap.size, 0, none⟩ _).cell? _ = _
      rw [HSN.out]
      exact World.cell?_setCell_same' _ _ _ (by rw [HB.out.2.1]; rfl)
    · show (W.setCell ⟨w1.heap.size, 0, none⟩ _).frozen? _ = _
      rw [World.frozen?_setCell]
      exact HB.out.2.2
  case done =>
    rintro D xs' W hD hS ⟨⟨hb0, hb1, hb1f⟩, hbel⟩ hK
    rw [hS] at hb1
    have hLn : allPl (fun i => (rows.getD i []).length) n = allPl (fun _ => n) n := by
      have key : ∀ m, m ≤ n → allPl (fun i => (rows.getD i []).length) m = allPl (fun _ => n) m := by
        intro m
        induction m with
        | zero => intro _; rfl
        | succ m ih => intro hm; rw [allPl_succ, allPl_succ, ih (by omega), HSQ.out.2 m (by omega)]
      exact key n (Nat.le_refl _)
    rw [hLn] at hb1
    obtain ⟨V, hV⟩ : ∃ V, V = sumPl rows xs (allPl (fun _ => n) n) := ⟨_, rfl⟩
    rw [← hV] at hb1
    have HV := Lib.hid hV
    clear hS hLn hV
    gi_wp2
    refine ⟨by simp, .inl ⟨_, _, rfl, run_takeDeferred hK, ?_⟩⟩
    refine ⟨_, results_tmp2 rfl _ _ _, by rw [← HV.out]; rfl, hbel.trans (belowK_b (w := w) (Nat.le_refl _) W D _ _ (by omega) hK rfl rfl)⟩
  case stop =>
    intro D c pre W hD hpre h hK
    exact h.elim
end Go.Proofs.Ytkelnkcigbghkaa
