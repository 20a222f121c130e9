/- Contract of smith.part. -/
import Derived.Test.YtllomialkiaccaaDoorEachOwn
import Derived.Test.YtllomialkiaccaaDoorChoices
import Derived.Test.YtllomialkiaccaaDoorRound
import Derived.Test.YtllomialkiaccaaDoorTail
import Derived.Test.YtllomialkiaccaaDoorPut
import Derived.Test.YtllomialkiaccaaDoorGrid
namespace Go.Proofs.YtllomialkiaccaaDoor
open Go.RowKit Go.Shelf
set_option linter.unusedVariables false
set_option linter.unusedSimpArgs false
attribute [local go_sem] Oper.semAt_some

theorem sqm_ext {n : Nat} {A B : List (List Int)} (ha : Sq n A) (hb : Sq n B) (h : ∀ i j, i < n → j < n → fn A i j = fn B i j) : A = B := by
  apply List.ext_getElem (by rw [ha.1, hb.1])
  intro i h1 h2
  have hi : i < n := by rw [← ha.1]; exact h1
  have e1 : A.getD i [] = A[i] := by simp [List.getD, h1]
  have e2 : B.getD i [] = B[i] := by simp [List.getD, h2]
  have l1 := ha.2 i hi
  have l2 := hb.2 i hi
  rw [e1] at l1
  rw [e2] at l2
  apply List.ext_getElem (by rw [l1, l2])
  intro j k1 k2
  have := h i j hi (by omega)
  unfold fn at this
  rw [e1, e2] at this
  simpa [List.getD, k1, k2] using this
theorem partL_sq (M : Nat → Nat → Int) {k : Nat} {r c : List Nat} (hr : r.length = k) (hc : c.length = k) : Sq k (partL M r c) := ⟨by simp [partL, hr], fun i hi => by simp [partL, List.getD, show i < r.length by omega, hc]⟩
theorem partL_fn (M : Nat → Nat → Int) {r c : List Nat} {i j : Nat} (hi : i < r.length) (hj : j < c.length) : fn (partL M r c) i j = M (r.getD i 0) (c.getD j 0) := by simp [fn, partL, List.getD, hi, hj]
theorem natI_at (l : List Nat) {i : Nat} (hi : i < l.length) : (natI l).getD i 0 = ((l.getD i 0 : Nat) : Int) := by simp [natI, List.getD, hi]

set_option maxRecDepth 100000 in
set_option maxHeartbeats 1000000 in
theorem Part_any (a ra ca : Option Addr) (n cap k rcap ccap : Nat) (rows : List (List Int)) (r c : List Nat) (w : World) (hr : RowsAt w a n rows) (hsq : Sq n rows) (h1 : IntsAt w ra k (natI r)) (h2 : IntsAt w ca k (natI c)) (hk0 : 0 < k) (hk : k ≤ 1000) (hn : n ≤ 1000)
    (hrl : r.length = k) (hcl : c.length = k) (hrb : ∀ i, i < k → r.getD i 0 < n) (hcb : ∀ i, i < k → c.getD i 0 < n) :
    Calls Tryd.prog 25 #[.slice a n cap, .slice ra k rcap, .slice ca k ccap] w fun e w' => (∃ G, e = .returned (.slice (some ⟨G, 0, none⟩) k k) ∧ RowsAt w' (some ⟨G, 0, none⟩) k (partL (fn rows) r c)) ∧ Below w.heap.size w w' := by
  have hn0 : 0 < n := by have := hrb 0 hk0; omega
  obtain ⟨ba, oa, rfl⟩ : ∃ b o, a = some ⟨b, o, none⟩ := by obtain ⟨b, off, _, _, ha, _⟩ := hr.2 0 hn0; exact ⟨b, off, ha⟩
  obtain ⟨bf, of, rfl, hbf, hcf⟩ := h1.some (by omega)
  obtain ⟨bt, ot, rfl, hbt, hct⟩ := h2.some (by omega)
  have HR := Lib.hid hr
  have HSQ := Lib.hid hsq
  have HF := Lib.hid h1
  have HT := Lib.hid h2
  have HRB := Lib.hid hrb
  have HCB := Lib.hid hcb
  have HCF := Lib.hid hcf
  have HCT := Lib.hid hct
  have HRL := Lib.hid hrl
  have HCL := Lib.hid hcl
  clear hr hsq h1 h2 hrb hcb hcf hct hrl hcl
  refine (callsIn_wide (n := 9)).1 ?_
  refine callsIn_of_wp_marks Tryd.func25 rfl trivial ?_ rfl
  simp only [Tryd.ntmps25, List.size_toArray, List.length_cons, List.length_nil, Nat.reduceAdd, Nat.reduceSub, Array.replicate_succ, Array.replicate_zero, List.push_toArray, List.append_toArray, List.nil_append, List.cons_append]
  gi_wp2
  have hb := (((Below.refl w.heap.size w).alloc (Nat.le_refl _) (.cells #[.slice (some ⟨ba, oa, none⟩) n cap] 22)).alloc (by simp) (.cells #[.slice (some ⟨bf, of, none⟩) k rcap] 24)).alloc (by simp; omega) (.cells #[.slice (some ⟨bt, ot, none⟩) k ccap] 24)
  have c0 : (((w.alloc (.cells #[.slice (some ⟨ba, oa, none⟩) n cap] 22)).alloc (.cells #[.slice (some ⟨bf, of, none⟩) k rcap] 24)).alloc (.cells #[.slice (some ⟨bt, ot, none⟩) k ccap] 24)).cell? ⟨w.heap.size, 0, none⟩ = some (.slice (some ⟨ba, oa, none⟩) n cap) := by go_simp
  have c1 : (((w.alloc (.cells #[.slice (some ⟨ba, oa, none⟩) n cap] 22)).alloc (.cells #[.slice (some ⟨bf, of, none⟩) k rcap] 24)).alloc (.cells #[.slice (some ⟨bt, ot, none⟩) k ccap] 24)).cell? ⟨w.heap.size + 1, 0, none⟩ = some (.slice (some ⟨bf, of, none⟩) k rcap) := by go_simp
  have c2 : (((w.alloc (.cells #[.slice (some ⟨ba, oa, none⟩) n cap] 22)).alloc (.cells #[.slice (some ⟨bf, of, none⟩) k rcap] 24)).alloc (.cells #[.slice (some ⟨bt, ot, none⟩) k ccap] 24)).cell? ⟨w.heap.size + 1 + 1, 0, none⟩ = some (.slice (some ⟨bt, ot, none⟩) k ccap) := by go_simp
  have hsz3 : (((w.alloc (.cells #[.slice (some ⟨ba, oa, none⟩) n cap] 22)).alloc (.cells #[.slice (some ⟨bf, of, none⟩) k rcap] 24)).alloc (.cells #[.slice (some ⟨bt, ot, none⟩) k ccap] 24)).heap.size = w.heap.size + 3 := by simp
  obtain ⟨W3, hW3⟩ : ∃ W3, (((w.alloc (.cells #[.slice (some ⟨ba, oa, none⟩) n cap] 22)).alloc (.cells #[.slice (some ⟨bf, of, none⟩) k rcap] 24)).alloc (.cells #[.slice (some ⟨bt, ot, none⟩) k ccap] 24)) = W3 := ⟨_, rfl⟩
  rw [hW3] at hb c0 c1 c2 hsz3 ⊢
  clear hW3
  refine ⟨trivial, (callsIn_wide.2 (Grid_any k k _ (by omega) (by omega))).mono ?_⟩
  rintro e w2 ⟨⟨Gm, vs, rfl, hgr⟩, hb2⟩
  rw [← hb2.cell (p := ⟨w.heap.size, 0, none⟩) (by show w.heap.size < _; omega)] at c0
  rw [← hb2.cell (p := ⟨w.heap.size + 1, 0, none⟩) (by show w.heap.size + 1 < _; omega)] at c1
  rw [← hb2.cell (p := ⟨w.heap.size + 1 + 1, 0, none⟩) (by show w.heap.size + 1 + 1 < _; omega)] at c2
  have hz2 := hb2.size
  have hB2 := below_trans hb hb2
  have HGR := Lib.hid hgr
  clear hgr hb2 hb
  gi_wp2
  refine ⟨trivial, (Each_in Fence.wide _ trivial rfl (some ⟨Gm, 0, none⟩) k k _).mono ?_⟩
  rintro e w3 ⟨rfl, rfl⟩
  gi_wp2
  have d0 := cell_new_l w2 (.slice (some ⟨Gm, 0, none⟩) k k) 22
  have d1 := cell_new_l (w2.alloc (.cells #[.slice (some ⟨Gm, 0, none⟩) k k] 22)) (.slice (some ⟨Gm, 0, none⟩) k k) 22
  simp only [World.size_alloc] at d1
  have hBa : Below w2.heap.size w2 ((w2.alloc (.cells #[.slice (some ⟨Gm, 0, none⟩) k k] 22)).alloc (.cells #[.slice (some ⟨Gm, 0, none⟩) k k] 22)) := ((Below.refl _ w2).alloc (Nat.le_refl _) _).alloc (by simp) _
  have hB0 := below_trans hB2 hBa
  have d0 := cell_alloc_l (.cells #[.slice (some ⟨Gm, 0, none⟩) k k] 22) d0.1
  have hgr0 := HGR.out.call hBa
  rw [← hBa.cell (p := ⟨w.heap.size, 0, none⟩) (by show w.heap.size < _; omega)] at c0
  rw [← hBa.cell (p := ⟨w.heap.size + 1, 0, none⟩) (by show w.heap.size + 1 < _; omega)] at c1
  rw [← hBa.cell (p := ⟨w.heap.size + 1 + 1, 0, none⟩) (by show w.heap.size + 1 + 1 < _; omega)] at c2
  have hsz : ((w2.alloc (.cells #[.slice (some ⟨Gm, 0, none⟩) k k] 22)).alloc (.cells #[.slice (some ⟨Gm, 0, none⟩) k k] 22)).heap.size = w2.heap.size + 2 := by simp
  obtain ⟨W0, hW0⟩ : ∃ W0, ((w2.alloc (.cells #[.slice (some ⟨Gm, 0, none⟩) k k] 22)).alloc (.cells #[.slice (some ⟨Gm, 0, none⟩) k k] 22)) = W0 := ⟨_, rfl⟩
  rw [hW0] at d1 hB0 d0 hgr0 hsz c0 c1 c2 ⊢
  have HGR0 := Lib.hid hgr0
  have HSQ0 := Lib.hid (show Sq k (List.replicate k (List.replicate k 0)) from ⟨by simp, fun i hi => by simp [List.getD, hi]⟩)
  have HVB := Lib.hid HGR.out.bound
  clear hBa hW0 hgr0 HGR
  refine wpIn_rangeFunc_ownH (F := Fence.wide) rfl (by omega) (gf := 39) (lb := #[.pointer (some ⟨w2.heap.size + 1, 0, none⟩)]) rfl trivial (enters_of Tryd.func39 (by kernel_rfl) rfl)
    (Each_stops Fence.wide _ trivial rfl (by omega) (w2.heap.size + 1) (some ⟨Gm, 0, none⟩) k k (raOf vs) (rcOf vs) (fun _ => k) (fun _ _ _ => True) (by omega) (fun i hi => by omega)
      (fun A B => EachSh (fun _ _ _ => True) (some ⟨Gm, 0, none⟩) k (raOf vs) (rcOf vs) (fun _ => k) A → EachSh (fun _ _ _ => True) (some ⟨Gm, 0, none⟩) k (raOf vs) (rcOf vs) (fun _ => k) B) (fun A B h => h) W0 (by omega) d1.1 (fun W h => each_own (HGR0.out.call h) HSQ0.out))
    (fun h k e => k (h e)) (fun W l o o' hl h hc _ e => each_put e h hc) (Below.refl _ _) (fun _ => rfl)
    (fun pre W => (W.cell? ⟨w2.heap.size, 0, none⟩ = some (.slice (some ⟨Gm, 0, none⟩) k k) ∧ W.cell? ⟨w.heap.size, 0, none⟩ = some (.slice (some ⟨ba, oa, none⟩) n cap) ∧ W.cell? ⟨w.heap.size + 1, 0, none⟩ = some (.slice (some ⟨bf, of, none⟩) k rcap) ∧ W.cell? ⟨w.heap.size + 1 + 1, 0, none⟩ = some (.slice (some ⟨bt, ot, none⟩) k ccap)) ∧ (FillAt W W3.heap.size Gm k vs (fn (partL (fn rows) r c)) (pre.map pl) ∧ Below w.heap.size w W))
    (fun c pre W => False)
    ?hI ?hIx ?h0
    (fun x a' W => ∃ Bx, W.cell? ⟨Bx, 0, none⟩ = some (.int .i64 x.1.1) ∧ W.cell? ⟨Bx, 1, none⟩ = some (.int .i64 x.1.2.1) ∧ a' = { tmps := #[.slice (some ⟨ba, oa, none⟩) n cap, .slice (some ⟨bf, of, none⟩) k rcap, .slice (some ⟨bt, ot, none⟩) k ccap, .pointer (some ⟨w.heap.size, 0, none⟩), .pointer (some ⟨w.heap.size + 1, 0, none⟩), .pointer (some ⟨w.heap.size + 1 + 1, 0, none⟩), .slice none 0 0, .pointer (some ⟨w2.heap.size, 0, none⟩), .pointer (some ⟨Bx, 0, none⟩), .slice (some ⟨bf, of, none⟩) k rcap, .int .i64 k, .slice (some ⟨bt, ot, none⟩) k ccap, .int .i64 k, .slice (some ⟨Gm, 0, none⟩) k k, .slice (some ⟨Gm, 0, none⟩) k k, .func (.func 39) #[] #[.pointer (some ⟨w2.heap.size + 1, 0, none⟩)], .agg #[.int .i64 x.1.1, .int .i64 x.1.2.1], .int .i64 x.1.2.2, undef, undef, undef, undef, undef, undef, undef, undef, undef, undef, undef, undef, undef, undef, undef, undef, undef, undef, undef, undef, undef, undef, undef, undef], defers := [] }) ?hAx ?assign ?body ?done ?stop
  case hI => exact OwnFrom.and (Own.from (fun s A B row ⟨h1, h2, h3, h4⟩ hg hr => ⟨cell_kept h1 hg hr, cell_kept h2 hg hr, cell_kept h3 hg hr, cell_kept h4 hg hr⟩) _) (OwnFrom.and (Own.from (fun s A B row ⟨X, h1, h2⟩ hg hr => ⟨X, own_rows h1 hg hr, h2⟩) _) (ownFrom_below (Nat.le_refl _) (by omega)))
  case hIx => exact fun c s A B row hs hg hr => hs
  case h0 =>
    refine ⟨⟨d0, c0, c1, c2⟩, ⟨_, HGR0.out, HSQ0.out, fun i j hi hj => ?_⟩, hB0⟩
    simp [fn, List.getD, hi, hj, fillF]
  case hAx => exact fun x a' => Own.from (fun s A B row ⟨Bx, h2, h3, h4⟩ hg hr => ⟨Bx, cell_kept h2 hg hr, cell_kept h3 hg hr, h4⟩) _
  case assign =>
    rintro l pre x W K ⟨⟨hb0, hb1, hb2, hb3⟩, ⟨A, hA, hsA, hfA⟩, hbel⟩ hK
    have HK := Lib.hid hK
    have HM := Lib.hid hA
    have HFF := Lib.hid hfA
    have HSA := Lib.hid hsA
    have hz := hbel.size
    have HB0 := Lib.hid (show W.cell? ⟨w2.heap.size, 0, none⟩ = some (.slice (some ⟨Gm, 0, none⟩) k k) ∧ W.cell? ⟨w.heap.size, 0, none⟩ = some (.slice (some ⟨ba, oa, none⟩) n cap) ∧ W.cell? ⟨w.heap.size + 1, 0, none⟩ = some (.slice (some ⟨bf, of, none⟩) k rcap) ∧ W.cell? ⟨w.heap.size + 1 + 1, 0, none⟩ = some (.slice (some ⟨bt, ot, none⟩) k ccap) from ⟨hb0, hb1, hb2, hb3⟩)
    clear hK hb0 hb1 hb2 hb3 hA hfA hsA
    rw [show encT x = #[.agg #[.int .i64 (x.1.1 : Int), .int .i64 (x.1.2.1 : Int)], .int .i64 x.1.2.2] from rfl]
    gi_wp2
    refine HK.out _ _ ((KeepsOthers.alloc _ _).from _) (fun _ => each_own (HM.out.call ((Below.refl _ W).alloc (Nat.le_refl _) _)) HSA.out) ⟨⟨cell_alloc_l _ HB0.out.1, cell_alloc_l _ HB0.out.2.1, cell_alloc_l _ HB0.out.2.2.1, cell_alloc_l _ HB0.out.2.2.2⟩, ⟨A, HM.out.call ((Below.refl _ W).alloc (Nat.le_refl _) _), HSA.out, HFF.out⟩, hbel.alloc hz _⟩ ⟨W.heap.size, ?_, ?_, rfl⟩
    · go_simp
    · go_simp
  case body =>
    rintro l pre x a' W hl ⟨r', hr⟩ ⟨⟨hb0, hb1, hb2, hb3⟩, ⟨A, hA, hsA, hfA⟩, hbel⟩ ⟨Bx, hx0, hx1, rfl⟩ hlt
    have HHR := Lib.hid hr
    have hi : x.1.1 < k := x.2.1
    have hj : x.1.2.1 < k := x.2.2.1
    obtain ⟨g, rc2, hh, hg1, hg2, hg3, hg4, hg5, hg6, hst⟩ := hA.at hsA hi hj
    have hi0 : (0 : Int) ≤ x.1.1 := by omega
    have hj0 : (0 : Int) ≤ x.1.2.1 := by omega
    have hi1 : (x.1.1 : Int) < k := by omega
    have hj1 : (x.1.2.1 : Int) < k := by omega
    have hcf := HCF.out _ hi
    have hct := HCT.out _ hj
    rw [natI_at _ (by rw [HRL.out]; exact hi)] at hcf
    rw [natI_at _ (by rw [HCL.out]; exact hj)] at hct
    rw [← hbel.cell (p := ⟨bf, of + x.1.1, none⟩) hbf] at hcf
    rw [← hbel.cell (p := ⟨bt, ot + x.1.2.1, none⟩) hbt] at hct
    have hpn := HRB.out _ hi
    have hqn := HCB.out _ hj
    have hpl0 := partL_fn (fn rows) (r := r) (c := c) (i := x.1.1) (j := x.1.2.1) (by rw [HRL.out]; exact hi) (by rw [HCL.out]; exact hj)
    obtain ⟨p, hp⟩ : ∃ p, p = r.getD x.1.1 0 := ⟨_, rfl⟩
    obtain ⟨q, hq⟩ : ∃ q, q = c.getD x.1.2.1 0 := ⟨_, rfl⟩
    rw [← hp] at hcf hpn hpl0
    rw [← hq] at hct hqn hpl0
    have hlp := HSQ.out.2 p hpn
    obtain ⟨b2', o2', rcc, e1, e2a⟩ := (HR.out.call hbel).elem hpn (show q < (rows.getD p []).length by omega)
    rw [hlp] at e1
    have e2 : W.cell? ⟨b2', o2' + q, none⟩ = some (.int .i64 (fn rows p q)) := e2a
    clear e2a
    obtain ⟨y, hy⟩ : ∃ y, y = fn rows p q := ⟨_, rfl⟩
    rw [← hy] at e2 hpl0
    have HVAL := Lib.hid hpl0
    have hp0 : (0 : Int) ≤ p := by omega
    have hq0 : (0 : Int) ≤ q := by omega
    have hp1 : (p : Int) < n := by omega
    have hq1 : (q : Int) < n := by omega
    have HM := Lib.hid hA
    have HFF := Lib.hid hfA
    have HST := Lib.hid (fun (W5 : World) (hC : Below W.heap.size W W5) => ((hA.call hC).storeAt hsA hi hj hg4 y))
    have HSA := Lib.hid hsA
    have hsz := hbel.size
    have HB0 := Lib.hid (show W.cell? ⟨w2.heap.size, 0, none⟩ = some (.slice (some ⟨Gm, 0, none⟩) k k) ∧ W.cell? ⟨w.heap.size, 0, none⟩ = some (.slice (some ⟨ba, oa, none⟩) n cap) ∧ W.cell? ⟨w.heap.size + 1, 0, none⟩ = some (.slice (some ⟨bf, of, none⟩) k rcap) ∧ W.cell? ⟨w.heap.size + 1 + 1, 0, none⟩ = some (.slice (some ⟨bt, ot, none⟩) k ccap) from ⟨hb0, hb1, hb2, hb3⟩)
    have HG4 := Lib.hid hg4
    clear hst hA hfA hr hsA hpl0 hg4 hp hq hy
    have hpl : (pre ++ [x]).map pl = pre.map pl ++ [(x.1.1, x.1.2.1)] := by rw [List.map_append]; rfl
    have HPL := Lib.hid hpl
    clear hpl
    gi_wp2
    refine wpIn_region_still_tailR 22 (by kernel_rfl) (by kernel_rfl) (by kernel_rfl) ?_
    simp only [List.take_succ_cons, List.take_zero, List.drop_succ_cons, List.drop_zero]
    repeat still_step
    try refine wpStill_nil ?_
    gi_wp2
    rw [show (W.setCell ⟨g, x.1.2.1, none⟩ (.int .i64 y)).drew = W.drew.setCell ⟨g, x.1.2.1, none⟩ (.int .i64 y) from rfl]
    have hko : KeepsOthers W W.drew := KeepsOthers.drew W
    have hgv : g < w2.heap.size := HVB.out.2 _ g (by rw [HG4.out]; rfl)
    have hW5 : Below W.heap.size W W.drew := Cls.start
    have hst := HST.out _ hW5
    have key : ∀ {bb : Nat} {v : Value}, bb ≠ g → W.cell? ⟨bb, 0, none⟩ = some v → (W.drew.setCell ⟨g, x.1.2.1, none⟩ (.int .i64 y)).cell? ⟨bb, 0, none⟩ = some v := fun hne hv =>
      (grown_setCell W.drew g x.1.2.1 _).cell hv (by intro he; have he := Option.some.inj he; dsimp only at he; omega)
    refine ⟨(hko.trans (KeepsOthers.setCell _ _ _)).from _, fun _ => each_own hst (put_sq HSA.out _ _ _), ⟨⟨key (by omega) HB0.out.1, key (by omega) HB0.out.2.1, key (by omega) HB0.out.2.2.1, key (by omega) HB0.out.2.2.2⟩,
      ⟨_, hst, put_sq HSA.out _ _ _, fun i j hi' hj' => ?_⟩, (hbel.trans (hW5.mono hsz)).setCell (p := ⟨g, x.1.2.1, none⟩) (by show w.heap.size ≤ g; omega) _⟩⟩
    rw [HPL.out, fn_put HSA.out hi hj, fill_next, HVAL.out, HFF.out i j hi' hj']
  case done =>
    rintro D xs W hD hS ⟨⟨hb0, hb1, hb2, hb3⟩, ⟨A, hA, hsA, hfA⟩, hbel⟩ hK
    have HM := Lib.hid hA
    have HFF := Lib.hid hfA
    have HS := Lib.hid hS
    have HSA := Lib.hid hsA
    clear hS hA hfA hsA
    gi_wp2
    refine ⟨by simp, .inl ⟨_, _, rfl, run_takeDeferred hK, ?_⟩⟩
    have hA2 : A = partL (fn rows) r c := by
      refine sqm_ext HSA.out (partL_sq _ HRL.out HCL.out) fun i j hi hj => ?_
      rw [HFF.out i j hi hj, HS.out]
      unfold fillF
      rw [if_pos (mem_allPl.2 ⟨hi, hj⟩)]
    have hM := own_rows HM.out (grownBy_putObj' W D (.deferred none)) (fun r e => by cases e; exact ⟨_, hK, rfl⟩)
    have hra := hM.read
    rw [HSA.out.1, hA2] at hra
    exact ⟨_, results_tmp rfl _ _ _, ⟨⟨Gm, rfl, hra⟩, hbel.trans (belowK_b (w := w) (Nat.le_refl _) W D _ _ (by omega) hK rfl rfl)⟩⟩
  case stop =>
    intro D c pre W hD hpre h hK
    exact h.elim
end Go.Proofs.YtllomialkiaccaaDoor
