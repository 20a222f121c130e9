/- Contract of perm.Pairs. -/
import Derived.Test.YtacdhgenpcgddaaEach
import Derived.Test.YtacdhgenpcgddaaRound
import Derived.Test.YtacdhgenpcgddaaPut
import Derived.Test.YtacdhgenpcgddaaPerm
import Derived.Test.YtacdhgenpcgddaaGrid
namespace Go.Proofs.Ytacdhgenpcgddaa
open Go.RowKit Go.Shelf
set_option linter.unusedVariables false
set_option linter.unusedSimpArgs false
attribute [local go_sem] Oper.semAt_some

theorem own_rows {W W' : World} {B : Nat} {v : Value} {vs : List Value} {rows : List (List Int)} {row : Option Nat} (h : OwnRowsV W B v vs rows) (hg : W.grownBy W' row) (hr : ∀ r, row = some r → ∃ o : Obj, W.heap[r]? = some o ∧ o.isCells = false) : OwnRowsV W' B v vs rows := by
  obtain ⟨hV, hl, hrows, hd⟩ := h
  have key : ∀ (e : TypeId) (u : Value) (n : Nat) (xs : List Value), W.ownsRow B e 1 u n xs → u.ownBlock = none ∨ u.ownBlock ≠ row := by
    intro e u n xs hu
    rcases hu.2 with ⟨rfl, _⟩ | ⟨g, cap, cur, rfl, _, hgc, _⟩
    · left; rfl
    · right
      intro he
      obtain ⟨o, ho, hc⟩ := hr g he.symm
      rw [hgc] at ho
      cases ho
      cases hc
  exact ⟨hV.kept hg (key _ _ _ _ hV), hl, fun i hi => (hrows i hi).kept hg (key _ _ _ _ (hrows i hi)), hd⟩

/-- 1 where a number is not 0 -/
def onesF (M : Nat → Nat → Int) : Nat → Nat → Int := fun i j => if M i j = 0 then 0 else 1
/-- what the marks are, the places of pre being over -/
def marksF (M : Nat → Nat → Int) (pre : List (Nat × Nat)) : Nat → Nat → Int := fun i j => if (i, j) ∈ pre then onesF M i j else 0
theorem marks_zero {M : Nat → Nat → Int} {pre : List (Nat × Nat)} {i j : Nat} (h : M i j = 0) : marksF M (pre ++ [(i, j)]) = marksF M pre := by
  funext a b
  unfold marksF onesF
  by_cases h1 : (a, b) = (i, j)
  · obtain ⟨rfl, rfl⟩ : a = i ∧ b = j := by simpa using h1
    simp [h]
  · have : ((a, b) ∈ pre ++ [(i, j)]) = ((a, b) ∈ pre) := by simp [List.mem_append]; intro h2 h3; exact absurd (by rw [h2, h3]) h1
    simp only [this]
theorem marks_one {M : Nat → Nat → Int} {pre : List (Nat × Nat)} {i j : Nat} (h : M i j ≠ 0) (a b : Nat) : marksF M (pre ++ [(i, j)]) a b = if a = i ∧ b = j then 1 else marksF M pre a b := by
  unfold marksF onesF
  by_cases h1 : a = i ∧ b = j
  · obtain ⟨rfl, rfl⟩ := h1
    simp [h]
  · rw [if_neg h1]
    have : ((a, b) ∈ pre ++ [(i, j)]) = ((a, b) ∈ pre) := by simp [List.mem_append]; intro h2 h3; exact absurd ⟨h2, h3⟩ h1
    simp only [this]
/-- the marks as they lie -/
def MarksAt (W : World) (B G n : Nat) (vs : List Value) (M : Nat → Nat → Int) (pre : List (Nat × Nat)) : Prop := ∃ A, OwnRowsV W B (.slice (some ⟨G, 0, none⟩) n n) vs A ∧ Sq n A ∧ ∀ a b, a < n → b < n → fn A a b = marksF M pre a b

/-- what perm.Pairs answers -/
def pairsV (rows : List (List Int)) : Int := if sqErr rows 5 (-9) 9 = 0 then G 1 rows.length (onesF (fn rows)) else 0
theorem ones_bd {n : Nat} {A : List (List Int)} (h : Sq n A) {M : Nat → Nat → Int} (he : ∀ a b, a < n → b < n → fn A a b = onesF M a b) (hn : n ≤ 5) : permN n A = G 1 n (onesF M) ∧ -120 ≤ permN n A ∧ permN n A ≤ 120 := by
  have hent : Ent 1 A := by
    intro i j
    by_cases hi : i < n
    · by_cases hj : j < n
      · have := he i j hi hj
        unfold fn at this
        rw [this]
        unfold onesF
        split <;> omega
      · have : (A.getD i []).getD j 0 = 0 := by
          have := h.2 i hi
          rw [List.getD_eq_getElem?_getD, List.getElem?_eq_none (by omega)]
          rfl
        rw [this]; omega
    · have : A.getD i [] = [] := by rw [List.getD_eq_getElem?_getD, List.getElem?_eq_none (by rw [h.1]; omega)]; rfl
      rw [this]
      simp
  have hb := permN_bd n hent
  have hb2 : bnd 1 n ≤ 120 := by
    match n, hn with
    | 0, _ => decide
    | 1, _ => decide
    | 2, _ => decide
    | 3, _ => decide
    | 4, _ => decide
    | 5, _ => decide
  refine ⟨?_, by omega, by omega⟩
  rw [permN_G]
  exact G_congr 1 n he

theorem Pairs_bad (a : Option Addr) (n cap : Nat) (rows : List (List Int)) (w : World) (hr : RowsAt w a n rows) (hs : Small n rows) (he : sqErr rows 5 (-9) 9 ≠ 0) :
    Calls Try.prog 5 #[.slice a n cap] w fun e w' => e = .returned (.tuple #[.int .i64 0, errV (sqErr rows 5 (-9) 9)]) ∧ Below w.heap.size w w' := by
  have hG := PermCheck_any a n cap rows w hr hs
  have hE : errV (sqErr rows 5 (-9) 9) = .iface 43 (.int .i64 (sqErr rows 5 (-9) 9)) := by unfold errV; rw [if_neg he]
  rw [hE] at hG ⊢
  generalize sqErr rows 5 (-9) 9 = e at *
  clear hs hE he hr
  go_enter Try.func5, Try.ntmps5
  go_wp2_with fail
  go_at_call 10
  refine (hG).mono ?_
  rintro e w1 ⟨rfl, rfl⟩
  go_wp2_with fail
  go_ret2
  exact ⟨rfl, Below.refl _ _⟩

set_option maxHeartbeats 1000000 in
theorem Pairs_good (a : Option Addr) (n cap : Nat) (rows : List (List Int)) (w : World) (hr : RowsAt w a n rows) (hs : Small n rows) (he : sqErr rows 5 (-9) 9 = 0) :
    Calls Try.prog 5 #[.slice a n cap] w fun e w' => e = .returned (.tuple #[.int .i64 (pairsV rows), .nilIface]) ∧ Below w.heap.size w w' := by
  have hG := fun w (hr : RowsAt w a n rows) => PermCheck_any a n cap rows w hr hs
  have HR := Lib.hid hr
  have hsq := good_sq he
  have hl := hr.1
  obtain ⟨hg1, hg2, hg3⟩ := sqErr_good he
  rw [hl] at hsq hg2
  obtain ⟨ra, rc, hsh, hkp⟩ := rows_each hr
  rw [he, show errV 0 = .nilIface from rfl] at hG
  have HE := Lib.hid he
  have HSQ := Lib.hid hsq
  have HSH := Lib.hid hsh
  have HKP := Lib.hid hkp
  have HL := Lib.hid hl
  have hn5 : n ≤ 5 := by omega
  clear he hr hs hsq hg1 hg2 hg3 hsh hkp hl
  refine (callsIn_wide (n := 9)).1 ?_
  refine callsIn_of_wp_marks Try.func5 rfl trivial ?_ rfl
  simp only [Try.ntmps5, List.size_toArray, List.length_cons, List.length_nil, Nat.reduceAdd, Nat.reduceSub, Array.replicate_succ, Array.replicate_zero, List.push_toArray, List.append_toArray, List.nil_append, List.cons_append]
  gi_wp2
  refine ⟨trivial, (callsIn_wide.2 (hG _ HR.out)).mono ?_⟩
  rintro e w1 ⟨rfl, rfl⟩
  gi_wp2
  refine ⟨trivial, (callsIn_wide.2 (Grid_any n n _ (by omega) (by omega))).mono ?_⟩
  rintro e w1 ⟨⟨Gm, vs, rfl, hgr⟩, hb1⟩
  have HGR := Lib.hid hgr
  clear hgr hG
  gi_wp2
  refine ⟨trivial, (Each_in Fence.wide _ trivial rfl a n cap _).mono ?_⟩
  rintro e w2 ⟨rfl, rfl⟩
  gi_wp2
  have hc0 := cell_new_l w1 (.slice (some ⟨Gm, 0, none⟩) n n) 22
  have hc1 := cell_new_l (w1.alloc (.cells #[.slice (some ⟨Gm, 0, none⟩) n n] 22)) (.slice a n cap) 22
  simp only [World.size_alloc] at hc1
  have hz1 := hb1.size
  have hBa : Below w1.heap.size w1 ((w1.alloc (.cells #[.slice (some ⟨Gm, 0, none⟩) n n] 22)).alloc (.cells #[.slice a n cap] 22)) := ((Below.refl _ w1).alloc (Nat.le_refl _) _).alloc (by simp) _
  have hB0 := below_trans hb1 hBa
  have hC0 := cell_alloc_l (.cells #[.slice a n cap] 22) hc0.1
  have hgr0 := HGR.out.call hBa
  have hsz : ((w1.alloc (.cells #[.slice (some ⟨Gm, 0, none⟩) n n] 22)).alloc (.cells #[.slice a n cap] 22)).heap.size = w1.heap.size + 2 := by simp
  obtain ⟨W0, hW0⟩ : ∃ W0, ((w1.alloc (.cells #[.slice (some ⟨Gm, 0, none⟩) n n] 22)).alloc (.cells #[.slice a n cap] 22)) = W0 := ⟨_, rfl⟩
  rw [hW0] at hc1 hB0 hC0 hgr0 hsz ⊢
  have HGR0 := Lib.hid hgr0
  clear hc0 hBa hW0 hgr0
  refine wpIn_rangeFunc_ownH (F := Fence.wide) rfl (by omega) (gf := 15) (lb := #[.pointer (some ⟨w1.heap.size + 1, 0, none⟩)]) rfl trivial (enters_of Try.func15 (by kernel_rfl) rfl)
    (Each_stops Fence.wide _ trivial rfl (by omega) (w1.heap.size + 1) a n cap ra rc (fun i => (rows.getD i []).length) (fun i j x => x = (rows.getD i []).getD j 0) (by omega) (fun i hi => by rw [HSQ.out.2 i hi]; omega) (Below w.heap.size) (HKP.out) W0 (by omega) hc1.1 (fun W h => HSH.out W (hB0.trans (h.mono (by omega)))))
    belowK_t (fun W l o o' hl h _ _ => (Below.refl w.heap.size W).grown (grownBy_putObj' W l o') (by have := (Array.getElem?_eq_some_iff.1 h).1; omega) (fun k e => by cases e; omega)) (Below.refl _ _) (fun _ => rfl)
    (fun pre W => W.cell? ⟨w1.heap.size, 0, none⟩ = some (.slice (some ⟨Gm, 0, none⟩) n n) ∧ (MarksAt W w.heap.size Gm n vs (fn rows) (pre.map pl) ∧ Below w.heap.size w W))
    (fun c pre W => False)
    ?hI ?hIx ?h0
    (fun x a' W => ∃ Bx, W.cell? ⟨Bx, 0, none⟩ = some (.int .i64 x.1.1) ∧ W.cell? ⟨Bx, 1, none⟩ = some (.int .i64 x.1.2.1) ∧ a' = { tmps := #[.slice a n cap, undef, .int .i64 0, .nilIface, .nilIface, .pointer (some ⟨w1.heap.size, 0, none⟩), .pointer (some ⟨Bx, 0, none⟩), .int .i64 x.1.2.2, .slice a n cap, .nilIface, .nilIface, .bool false, undef, .slice a n cap, .int .i64 n, .slice a n cap, .int .i64 n, .slice (some ⟨Gm, 0, none⟩) n n, .slice a n cap, .func (.func 15) #[] #[.pointer (some ⟨w1.heap.size + 1, 0, none⟩)], .agg #[.int .i64 x.1.1, .int .i64 x.1.2.1], .int .i64 x.1.2.2, undef, undef, undef, undef, undef, undef, undef, undef, undef, undef, undef, undef], defers := [] }) ?hAx ?assign ?body ?done ?stop
  case hI => exact OwnFrom.and (Own.from (fun s A B row hs hg hr => cell_kept hs hg hr) _) (OwnFrom.and (Own.from (fun s A B row ⟨X, h1, h2⟩ hg hr => ⟨X, own_rows h1 hg hr, h2⟩) _) (ownFrom_below (Nat.le_refl _) (by omega)))
  case hIx => exact fun c s A B row hs hg hr => hs
  case h0 =>
    refine ⟨hC0, ⟨_, HGR0.out, ⟨by simp, fun i hi => by simp [List.getD, hi]⟩, fun i j hi hj => ?_⟩, hB0⟩
    simp [fn, List.getD, hi, hj, marksF]
  case hAx => exact fun x a' => Own.from (fun s A B row ⟨Bx, h2, h3, h4⟩ hg hr => ⟨Bx, cell_kept h2 hg hr, cell_kept h3 hg hr, h4⟩) _
  case assign =>
    rintro l pre x W K ⟨hb0, ⟨A, hA, hsA, hfA⟩, hbel⟩ hK
    have HK := Lib.hid hK
    have HM := Lib.hid hA
    have HF := Lib.hid hfA
    have hz := hbel.size
    have hb0' := hb0
    have HB0 := Lib.hid hb0'
    clear hK hb0 hb0' hA hfA
    rw [show encT x = #[.agg #[.int .i64 (x.1.1 : Int), .int .i64 (x.1.2.1 : Int)], .int .i64 x.1.2.2] from rfl]
    gi_wp2
    refine HK.out _ _ ((KeepsOthers.alloc _ _).from _) ((Below.refl _ W).alloc hz _) ⟨cell_alloc_l _ HB0.out, ⟨A, HM.out.call ((Below.refl _ W).alloc (Nat.le_refl _) _), hsA, HF.out⟩, hbel.alloc hz _⟩ ⟨W.heap.size, ?_, ?_, rfl⟩
    · go_simp
    · go_simp
  case body =>
    rintro l pre x a' W hl ⟨r, hr⟩ ⟨hb0, ⟨A, hA, hsA, hfA⟩, hbel⟩ ⟨Bx, hx0, hx1, rfl⟩ hlt
    have HHR := Lib.hid hr
    have HX := Lib.hid x.2
    have hi : x.1.1 < n := HX.out.1
    have hj : x.1.2.1 < n := by have := HX.out.2.1; dsimp only at this; rw [HSQ.out.2 _ hi] at this; exact this
    obtain ⟨g, rc2, hh, hg1, hg2, hg3, hg4, hg5, hg6, hst⟩ := hA.at hsA hi hj
    have hi0 : (0 : Int) ≤ x.1.1 := by omega
    have hj0 : (0 : Int) ≤ x.1.2.1 := by omega
    have hi1 : (x.1.1 : Int) < n := by omega
    have hj1 : (x.1.2.1 : Int) < n := by omega
    have HM := Lib.hid hA
    have HF := Lib.hid hfA
    have HST := Lib.hid (hst 1)
    have HSA := Lib.hid hsA
    have hsz := hbel.size
    have hb0' := hb0
    have HB0 := Lib.hid hb0'
    clear hst hA hfA hr hsA hb0'
    have hpl : (pre ++ [x]).map pl = pre.map pl ++ [(x.1.1, x.1.2.1)] := by rw [List.map_append]; rfl
    by_cases hv : x.1.2.2 = 0
    · have hvb : (x.1.2.2 != 0) = false := by simp [hv]
      have HV := Lib.hid hv
      clear hv
      gi_wp2
      refine ⟨KeepsFrom.refl _ _, Below.refl _ _, HB0.out, ⟨A, HM.out, HSA.out, fun i j hi hj => ?_⟩, hbel⟩
      rw [hpl, marks_zero (HX.out.2.2.symm.trans HV.out)]
      exact HF.out i j hi hj
    · have hvb : (x.1.2.2 != 0) = true := by simp [hv]
      have HV := Lib.hid hv
      clear hv
      gi_wp2
      refine wpIn_region_still_tailR 8 (by kernel_rfl) (by kernel_rfl) (by kernel_rfl) ?_
      simp only [List.take_succ_cons, List.take_zero, List.drop_succ_cons, List.drop_zero]
      repeat still_step
      try refine wpStill_nil ?_
      gi_wp2
      have hgz : g < w1.heap.size := HGR.out.bound.2 _ g (by rw [hg4]; rfl)
      refine ⟨((KeepsOthers.setCell _ _ _).trans (KeepsOthers.drew _)).from _, ((Below.refl w.heap.size W).setCell (p := ⟨g, x.1.2.1, none⟩) hg1 _).trans Cls.start, ?_, ⟨_, HST.out.call Cls.start, put_sq HSA.out _ _ _, fun i j hi' hj' => ?_⟩, (hbel.setCell (p := ⟨g, x.1.2.1, none⟩) hg1 _).trans Cls.start⟩
      · exact (grown_setCell W g x.1.2.1 _).cell HB0.out (by intro he; have he := Option.some.inj he; dsimp only at he; omega)
      · rw [hpl, marks_one (fun h => HV.out (HX.out.2.2.trans h)), fn_put HSA.out hi hj, HF.out i j hi' hj']
  case done =>
    rintro D xs W hD hS ⟨hb0, ⟨A, hA, hsA, hfA⟩, hbel⟩ hK
    have HM := Lib.hid hA
    have HF := Lib.hid hfA
    have HS := Lib.hid hS
    clear hS hA hfA
    gi_wp2
    have hra := HM.out.read
    rw [hsA.1] at hra
    refine ⟨trivial, (callsIn_wide.2 (Perm_of_any n _ _ A _ (by omega) (Nat.le_refl _) hsA hra)).mono ?_⟩
    rintro e w2 ⟨rfl, hb2⟩
    gi_wp2
    have hK' : w2.heap[D]? = some (.deferred (some [])) := (hb2.block D (Array.getElem?_eq_some_iff.1 hK).1).trans hK
    refine ⟨by simp, .inl ⟨_, _, rfl, run_takeDeferred hK', ?_⟩⟩
    have hfin : wrap64 (permN n A) = pairsV rows := by
      have he : ∀ i j, i < n → j < n → fn A i j = onesF (fn rows) i j := by
        intro i j hi hj
        rw [HF.out i j hi hj, HS.out]
        unfold marksF
        rw [if_pos (mem_allPl.2 ⟨hi, by rw [HSQ.out.2 i hi]; exact hj⟩)]
      obtain ⟨o1, o2, o3⟩ := ones_bd hsA he hn5
      rw [wrap_in (by omega) (by omega), o1]
      unfold pairsV
      rw [if_pos HE.out, HL.out]
    rw [hfin]
    refine ⟨_, results_tmp2 rfl _ _ _, rfl, (hbel.trans (hb2.mono hbel.size)).trans (belowK_b (w := w) (Nat.le_refl _) w2 D _ _ (by omega) hK' rfl rfl)⟩
  case stop =>
    intro D c pre W hD hpre h hK
    exact h.elim

theorem pairsV_bd (rows : List (List Int)) : -120 ≤ pairsV rows ∧ pairsV rows ≤ 120 := by
  unfold pairsV
  split
  · rename_i h
    obtain ⟨h1, h2, h3⟩ := sqErr_good h
    have hs : Sq rows.length ((List.range rows.length).map fun i => (List.range rows.length).map fun j => onesF (fn rows) i j) := ⟨by simp, fun i hi => by simp [List.getD, hi]⟩
    obtain ⟨o1, o2, o3⟩ := ones_bd hs (M := fn rows) (fun a b ha hb => by simp [fn, List.getD, ha, hb]) (by omega)
    omega
  · omega
theorem Pairs_any (a : Option Addr) (n cap : Nat) (rows : List (List Int)) (w : World) (hr : RowsAt w a n rows) (hs : Small n rows) :
    Calls Try.prog 5 #[.slice a n cap] w fun e w' => e = .returned (.tuple #[.int .i64 (pairsV rows), errV (sqErr rows 5 (-9) 9)]) ∧ Below w.heap.size w w' := by
  by_cases he : sqErr rows 5 (-9) 9 = 0
  · rw [he]
    exact Pairs_good a n cap rows w hr hs he
  · have hv : pairsV rows = 0 := by unfold pairsV; rw [if_neg he]
    rw [hv]
    exact Pairs_bad a n cap rows w hr hs he
end Go.Proofs.Ytacdhgenpcgddaa
