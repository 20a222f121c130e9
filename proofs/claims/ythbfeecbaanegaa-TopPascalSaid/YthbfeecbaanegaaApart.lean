/- Contract of paths.Apart. -/
import Derived.Test.YthbfeecbaanegaaEach
import Derived.Test.YthbfeecbaanegaaRound
import Derived.Test.YthbfeecbaanegaaTail
import Derived.Test.YthbfeecbaanegaaPut
import Derived.Test.YthbfeecbaanegaaGrid
import Derived.Test.YthbfeecbaanegaaDet
import Derived.Test.YthbfeecbaanegaaPathCheck
import Derived.Test.YthbfeecbaanegaaPathLaw
import Derived.Test.YthbfeecbaanegaaWays
namespace Go.Proofs.Ythbfeecbaanegaa
open Go.RowKit Go.Shelf
set_option linter.unusedVariables false
set_option linter.unusedSimpArgs false
attribute [local go_sem] Oper.semAt_some

/-- rows that the call owns can be gone through while they are written -/
def raOf (vs : List Value) (i : Nat) : Option Addr := match vs.getD i undef with | .slice a _ _ => a | _ => none
def rcOf (vs : List Value) (i : Nat) : Nat := match vs.getD i undef with | .slice _ _ c => c | _ => 0
theorem each_own {W : World} {B G n cap : Nat} {vs : List Value} {A : List (List Int)} (h : OwnRowsV W B (.slice (some ⟨G, 0, none⟩) n cap) vs A) (hs : Sq n A) :
    EachSh (fun _ _ _ => True) (some ⟨G, 0, none⟩) n (raOf vs) (rcOf vs) (fun _ => n) W := by
  intro i hi
  obtain ⟨g, rc, h1, h2, h3, h4, h5, h6, h7, h8⟩ := h.at hs hi hi
  have e1 : raOf vs i = some ⟨g, 0, none⟩ := by unfold raOf; rw [h5]
  have e2 : rcOf vs i = rc := by unfold rcOf; rw [h5]
  refine ⟨G, 0, rfl, by rw [Nat.zero_add, h1, e1, e2], fun j hj => ?_⟩
  obtain ⟨g', rc', _, _, _, _, k5, _, k7, _⟩ := h.at hs hi hj
  rw [h5] at k5
  obtain ⟨rfl, rfl⟩ : g = g' ∧ rc = rc' := by simpa using k5
  exact ⟨g, 0, _, e1, by rw [Nat.zero_add]; exact k7, trivial⟩

theorem own_rows {W W' : World} {B : Nat} {v : Value} {vs : List Value} {rows : List (List Int)} {row : Option Nat} (h : OwnRowsV W B v vs rows) (hg : W.grownBy W' row) (hr : ∀ r, row = some r → ∃ o : Obj, W.heap[r]? = some o ∧ o.isCells = false) : OwnRowsV W' B v vs rows := by
  obtain ⟨hV, hl, hrows, hd⟩ := h
  have key : ∀ (e : TypeId) (u : Value) (n : Nat) (xs : List Value), W.ownsRow B e 1 u n xs → u.ownBlock = none ∨ u.ownBlock ≠ row := by
    intro e u n xs hu
    rcases hu.2 with ⟨rfl, _⟩ | ⟨g, cap, cur, rfl, _, hgc, _⟩
    · left; rfl
    · right
      intro he
      obtain ⟨o, ho, hc⟩ := hr g he.symm
      rw [hgc] at ho
      cases ho
      cases hc
  exact ⟨hV.kept hg (key _ _ _ _ hV), hl, fun i hi => (hrows i hi).kept hg (key _ _ _ _ (hrows i hi)), hd⟩
/-- a turn of a block that holds no cells -/
theorem each_put {Ok : Nat → Nat → Int → Prop} {a : Option Addr} {n : Nat} {ra : Nat → Option Addr} {rc L : Nat → Nat} {W : World} {l : Nat} {o o' : Obj} (h : EachSh Ok a n ra rc L W) (ho : W.heap[l]? = some o) (hc : o.isCells = false) : EachSh Ok a n ra rc L (W.putObj l o') := by
  intro i hi
  obtain ⟨b, off, e, h1, h2⟩ := h i hi
  have key : ∀ {p : Addr} {v : Value}, W.cell? p = some v → (W.putObj l o').cell? p = some v := fun hv => cell_kept hv (grownBy_putObj' W l o') (fun r e => by cases e; exact ⟨o, ho, hc⟩)
  refine ⟨b, off, e, key h1, fun j hj => ?_⟩
  obtain ⟨b2, off2, x, e2, h3, h4⟩ := h2 j hj
  exact ⟨b2, off2, x, e2, key h3, h4⟩
theorem OwnRowsV.storeAt {w : World} {B G n cap : Nat} {vs : List Value} {A : List (List Int)} (h : OwnRowsV w B (.slice (some ⟨G, 0, none⟩) n cap) vs A) (hs : Sq n A) {i j g rc : Nat} (hi : i < n) (hj : j < n) (hg : vs.getD i undef = .slice (some ⟨g, 0, none⟩) n rc) (x : Int) :
    OwnRowsV (w.setCell ⟨g, j, none⟩ (.int .i64 x)) B (.slice (some ⟨G, 0, none⟩) n cap) vs (putE A i j x) := by
  obtain ⟨g', rc', _, _, _, _, k5, _, _, k8⟩ := h.at hs hi hj
  rw [hg] at k5
  obtain ⟨rfl, rfl⟩ : g = g' ∧ rc = rc' := by simpa using k5
  exact k8 x

/-- the places of pre are filled -/
def fillF (M : Nat → Nat → Int) (pre : List (Nat × Nat)) : Nat → Nat → Int := fun i j => if (i, j) ∈ pre then M i j else 0
theorem fill_next {M : Nat → Nat → Int} {pre : List (Nat × Nat)} {i j : Nat} (a b : Nat) : fillF M (pre ++ [(i, j)]) a b = if a = i ∧ b = j then M i j else fillF M pre a b := by
  unfold fillF
  by_cases h1 : a = i ∧ b = j
  · obtain ⟨rfl, rfl⟩ := h1
    simp
  · rw [if_neg h1]
    have : ((a, b) ∈ pre ++ [(i, j)]) = ((a, b) ∈ pre) := by simp [List.mem_append]; intro h2 h3; exact absurd ⟨h2, h3⟩ h1
    simp only [this]
def FillAt (W : World) (B G n : Nat) (vs : List Value) (M : Nat → Nat → Int) (pre : List (Nat × Nat)) : Prop := ∃ A, OwnRowsV W B (.slice (some ⟨G, 0, none⟩) n n) vs A ∧ Sq n A ∧ ∀ a b, a < n → b < n → fn A a b = fillF M pre a b

theorem Apart_bad (width : Int) (a b : Option Addr) (n m cap cap' : Nat) (f t : List Int) (w : World) (hf : IntsAt w a n f) (ht : IntsAt w b m t) (hn : n ≤ 9223372036854775807) (hm : m ≤ 9223372036854775807) (he : pathErr width f t ≠ 0) :
    Calls Try.prog 5 #[.int .i64 width, .slice a n cap, .slice b m cap'] w fun e w' => e = .returned (.tuple #[.int .i64 0, errV (pathErr width f t)]) ∧ Below w.heap.size w w' := by
  have hC := fun W hW1 hW2 => PathCheck_any width a b n m cap cap' f t W hW1 hW2 hn hm
  rw [errV_pos he] at hC ⊢
  generalize pathErr width f t = e at *
  have HF := Lib.hid hf
  have HT := Lib.hid ht
  clear hf ht he
  go_enter Try.func5, Try.ntmps5
  go_wp2_with fail
  go_at_call 10
  have hb := (((Below.refl w.heap.size w).alloc (Nat.le_refl _) (.cells #[.int .i64 width] 3)).alloc (by simp) (.cells #[.slice a n cap] 27)).alloc (by simp; omega) (.cells #[.slice b m cap'] 27)
  refine (hC _ (HF.out.call hb) (HT.out.call hb)).mono ?_
  rintro e w1 ⟨rfl, hb1⟩
  have hb2 := below_trans hb hb1
  clear hb hb1
  go_wp2_with fail
  go_ret2
  exact ⟨rfl, hb2⟩

set_option maxHeartbeats 1000000 in
theorem Apart_good (width : Int) (a b : Option Addr) (n cap cap' : Nat) (f t : List Int) (w : World) (hf : IntsAt w a n f) (ht : IntsAt w b n t) (he : pathErr width f t = 0) :
    Calls Try.prog 5 #[.int .i64 width, .slice a n cap, .slice b n cap'] w fun e w' => e = .returned (.tuple #[.int .i64 (apartV width f t), .nilIface]) ∧ Below w.heap.size w w' := by
  obtain ⟨hw0, hw4, hl0, hl3, hlt, hrf, hrt⟩ := pathErr_good he
  have hfl := hf.1
  have htl := ht.1
  have hfe := (riseFrom_good f (-1) hrf).1
  have hte := (riseFrom_good t (-1) hrt).1
  have hfb : ∀ i, i < n → 0 ≤ f.getD i 0 ∧ f.getD i 0 ≤ 6 := fun i hi => by
    have hm := hfe (f[i]'(by omega)) (List.getElem_mem _)
    have e : f.getD i 0 = f[i]'(by omega) := by simp [List.getD, show i < f.length by omega]
    rw [e]; omega
  have htb : ∀ i, i < n → 0 ≤ t.getD i 0 ∧ t.getD i 0 ≤ 6 := fun i hi => by
    have hm := hte (t[i]'(by omega)) (List.getElem_mem _)
    have e : t.getD i 0 = t[i]'(by omega) := by simp [List.getD, show i < t.length by omega]
    rw [e]; omega
  obtain ⟨bf, of, rfl, hbf, hcf⟩ := hf.some (by omega)
  obtain ⟨bt, ot, rfl, hbt, hct⟩ := ht.some (by omega)
  have HFB := Lib.hid hfb
  have HTB := Lib.hid htb
  have HCF := Lib.hid hcf
  have HCT := Lib.hid hct
  have hC := fun W hW1 hW2 => PathCheck_any width (some ⟨bf, of, none⟩) (some ⟨bt, ot, none⟩) n n cap cap' f t W hW1 hW2 (by omega) (by omega)
  rw [he, errV_zero] at hC
  obtain ⟨wn, rfl⟩ := Int.eq_ofNat_of_zero_le hw0
  have HF := Lib.hid hf
  have HT := Lib.hid ht
  have HE := Lib.hid he
  have HFL := Lib.hid hfl
  have HC := Lib.hid hC
  have hn3 : n ≤ 3 := by omega
  have hn1 : 1 ≤ n := by omega
  clear he hf ht hfl htl hl0 hl3 hlt hw0 hC hrf hrt hfe hte hfb htb hcf hct
  refine (callsIn_wide (n := 9)).1 ?_
  refine callsIn_of_wp_marks Try.func5 rfl trivial ?_ rfl
  simp only [Try.ntmps5, List.size_toArray, List.length_cons, List.length_nil, Nat.reduceAdd, Nat.reduceSub, Array.replicate_succ, Array.replicate_zero, List.push_toArray, List.append_toArray, List.nil_append, List.cons_append]
  gi_wp2
  have hb := (((Below.refl w.heap.size w).alloc (Nat.le_refl _) (.cells #[.int .i64 (wn : Int)] 3)).alloc (by simp) (.cells #[.slice (some ⟨bf, of, none⟩) n cap] 27)).alloc (by simp; omega) (.cells #[.slice (some ⟨bt, ot, none⟩) n cap'] 27)
  have c0 : (((w.alloc (.cells #[.int .i64 (wn : Int)] 3)).alloc (.cells #[.slice (some ⟨bf, of, none⟩) n cap] 27)).alloc (.cells #[.slice (some ⟨bt, ot, none⟩) n cap'] 27)).cell? ⟨w.heap.size, 0, none⟩ = some (.int .i64 wn) := by go_simp
  have c1 : (((w.alloc (.cells #[.int .i64 (wn : Int)] 3)).alloc (.cells #[.slice (some ⟨bf, of, none⟩) n cap] 27)).alloc (.cells #[.slice (some ⟨bt, ot, none⟩) n cap'] 27)).cell? ⟨w.heap.size + 1, 0, none⟩ = some (.slice (some ⟨bf, of, none⟩) n cap) := by go_simp
  have c2 : (((w.alloc (.cells #[.int .i64 (wn : Int)] 3)).alloc (.cells #[.slice (some ⟨bf, of, none⟩) n cap] 27)).alloc (.cells #[.slice (some ⟨bt, ot, none⟩) n cap'] 27)).cell? ⟨w.heap.size + 1 + 1, 0, none⟩ = some (.slice (some ⟨bt, ot, none⟩) n cap') := by go_simp
  have hsz3 : (((w.alloc (.cells #[.int .i64 (wn : Int)] 3)).alloc (.cells #[.slice (some ⟨bf, of, none⟩) n cap] 27)).alloc (.cells #[.slice (some ⟨bt, ot, none⟩) n cap'] 27)).heap.size = w.heap.size + 3 := by simp
  obtain ⟨W3, hW3⟩ : ∃ W3, (((w.alloc (.cells #[.int .i64 (wn : Int)] 3)).alloc (.cells #[.slice (some ⟨bf, of, none⟩) n cap] 27)).alloc (.cells #[.slice (some ⟨bt, ot, none⟩) n cap'] 27)) = W3 := ⟨_, rfl⟩
  rw [hW3] at hb c0 c1 c2 hsz3 ⊢
  clear hW3
  refine ⟨trivial, (callsIn_wide.2 (HC.out _ (HF.out.call hb) (HT.out.call hb))).mono ?_⟩
  rintro e w1 ⟨rfl, hb1⟩
  rw [← hb1.cell (p := ⟨w.heap.size, 0, none⟩) (by show w.heap.size < _; omega)] at c0
  rw [← hb1.cell (p := ⟨w.heap.size + 1, 0, none⟩) (by show w.heap.size + 1 < _; omega)] at c1
  rw [← hb1.cell (p := ⟨w.heap.size + 1 + 1, 0, none⟩) (by show w.heap.size + 1 + 1 < _; omega)] at c2
  have hz1 := hb1.size
  have hB1 := below_trans hb hb1
  clear hb hb1 HC
  gi_wp2
  refine ⟨trivial, (callsIn_wide.2 (Grid_any n n _ (by omega) (by omega))).mono ?_⟩
  rintro e w2 ⟨⟨Gm, vs, rfl, hgr⟩, hb2⟩
  have c0' := c0
  have c1' := c1
  have c2' := c2
  rw [← hb2.cell (p := ⟨w.heap.size, 0, none⟩) (by show w.heap.size < _; omega)] at c0'
  rw [← hb2.cell (p := ⟨w.heap.size + 1, 0, none⟩) (by show w.heap.size + 1 < _; omega)] at c1'
  rw [← hb2.cell (p := ⟨w.heap.size + 1 + 1, 0, none⟩) (by show w.heap.size + 1 + 1 < _; omega)] at c2'
  have hz2 := hb2.size
  have hB2 := below_trans hB1 hb2
  have HGR := Lib.hid hgr
  clear hgr c0 c1 c2 hb2 hB1
  gi_wp2
  refine ⟨trivial, (Each_in Fence.wide _ trivial rfl (some ⟨Gm, 0, none⟩) n n _).mono ?_⟩
  rintro e w3 ⟨rfl, rfl⟩
  gi_wp2
  have d0 := cell_new_l w2 (.slice (some ⟨Gm, 0, none⟩) n n) 29
  have d1 := cell_new_l (w2.alloc (.cells #[.slice (some ⟨Gm, 0, none⟩) n n] 29)) (.slice (some ⟨Gm, 0, none⟩) n n) 29
  simp only [World.size_alloc] at d1
  have hBa : Below w2.heap.size w2 ((w2.alloc (.cells #[.slice (some ⟨Gm, 0, none⟩) n n] 29)).alloc (.cells #[.slice (some ⟨Gm, 0, none⟩) n n] 29)) := ((Below.refl _ w2).alloc (Nat.le_refl _) _).alloc (by simp) _
  have hB0 := below_trans hB2 hBa
  have d0 := cell_alloc_l (.cells #[.slice (some ⟨Gm, 0, none⟩) n n] 29) d0.1
  have hgr0 := HGR.out.call hBa
  rw [← hBa.cell (p := ⟨w.heap.size, 0, none⟩) (by show w.heap.size < _; omega)] at c0'
  rw [← hBa.cell (p := ⟨w.heap.size + 1, 0, none⟩) (by show w.heap.size + 1 < _; omega)] at c1'
  rw [← hBa.cell (p := ⟨w.heap.size + 1 + 1, 0, none⟩) (by show w.heap.size + 1 + 1 < _; omega)] at c2'
  have hsz : ((w2.alloc (.cells #[.slice (some ⟨Gm, 0, none⟩) n n] 29)).alloc (.cells #[.slice (some ⟨Gm, 0, none⟩) n n] 29)).heap.size = w2.heap.size + 2 := by simp
  obtain ⟨W0, hW0⟩ : ∃ W0, ((w2.alloc (.cells #[.slice (some ⟨Gm, 0, none⟩) n n] 29)).alloc (.cells #[.slice (some ⟨Gm, 0, none⟩) n n] 29)) = W0 := ⟨_, rfl⟩
  rw [hW0] at d1 hB0 d0 hgr0 hsz c0' c1' c2' ⊢
  have HGR0 := Lib.hid hgr0
  have HSQ0 := Lib.hid (show Sq n (List.replicate n (List.replicate n 0)) from ⟨by simp, fun i hi => by simp [List.getD, hi]⟩)
  have HVB := Lib.hid HGR.out.bound
  clear hBa hW0 hgr0 HGR
  refine wpIn_rangeFunc_ownH (F := Fence.wide) rfl (by omega) (gf := 18) (lb := #[.pointer (some ⟨w2.heap.size + 1, 0, none⟩)]) rfl trivial (enters_of Try.func18 (by kernel_rfl) rfl)
    (Each_stops Fence.wide _ trivial rfl (by omega) (w2.heap.size + 1) (some ⟨Gm, 0, none⟩) n n (raOf vs) (rcOf vs) (fun _ => n) (fun _ _ _ => True) (by omega) (fun i hi => by omega)
      (fun A B => EachSh (fun _ _ _ => True) (some ⟨Gm, 0, none⟩) n (raOf vs) (rcOf vs) (fun _ => n) A → EachSh (fun _ _ _ => True) (some ⟨Gm, 0, none⟩) n (raOf vs) (rcOf vs) (fun _ => n) B) (fun A B h => h) W0 (by omega) d1.1 (fun W h => each_own (HGR0.out.call h) HSQ0.out))
    (fun h k e => k (h e)) (fun W l o o' hl h hc _ e => each_put e h hc) (Below.refl _ _) (fun _ => rfl)
    (fun pre W => (W.cell? ⟨w2.heap.size, 0, none⟩ = some (.slice (some ⟨Gm, 0, none⟩) n n) ∧ W.cell? ⟨w.heap.size, 0, none⟩ = some (.int .i64 wn) ∧ W.cell? ⟨w.heap.size + 1, 0, none⟩ = some (.slice (some ⟨bf, of, none⟩) n cap) ∧ W.cell? ⟨w.heap.size + 1 + 1, 0, none⟩ = some (.slice (some ⟨bt, ot, none⟩) n cap')) ∧ (FillAt W w1.heap.size Gm n vs (wayF wn f t) (pre.map pl) ∧ Below w.heap.size w W))
    (fun c pre W => False)
    ?hI ?hIx ?h0
    (fun x a' W => ∃ Bx, W.cell? ⟨Bx, 0, none⟩ = some (.int .i64 x.1.1) ∧ W.cell? ⟨Bx, 1, none⟩ = some (.int .i64 x.1.2.1) ∧ a' = { tmps := #[.int .i64 wn, .slice (some ⟨bf, of, none⟩) n cap, .slice (some ⟨bt, ot, none⟩) n cap', .pointer (some ⟨w.heap.size, 0, none⟩), .pointer (some ⟨w.heap.size + 1, 0, none⟩), .pointer (some ⟨w.heap.size + 1 + 1, 0, none⟩), .int .i64 0, .nilIface, .nilIface, .pointer (some ⟨w2.heap.size, 0, none⟩), .pointer (some ⟨Bx, 0, none⟩), .int .i64 wn, .slice (some ⟨bf, of, none⟩) n cap, .slice (some ⟨bt, ot, none⟩) n cap', .nilIface, .nilIface, .bool false, undef, .slice (some ⟨bf, of, none⟩) n cap, .int .i64 n, .slice (some ⟨bt, ot, none⟩) n cap', .int .i64 n, .slice (some ⟨Gm, 0, none⟩) n n, .slice (some ⟨Gm, 0, none⟩) n n, .func (.func 18) #[] #[.pointer (some ⟨w2.heap.size + 1, 0, none⟩)], .agg #[.int .i64 x.1.1, .int .i64 x.1.2.1], .int .i64 x.1.2.2, undef, undef, undef, undef, undef, undef, undef, undef, undef, undef, undef, undef, undef, undef, undef, undef, undef, undef, undef, undef, undef, undef, undef], defers := [] }) ?hAx ?assign ?body ?done ?stop
  case hI => exact OwnFrom.and (Own.from (fun s A B row ⟨h1, h2, h3, h4⟩ hg hr => ⟨cell_kept h1 hg hr, cell_kept h2 hg hr, cell_kept h3 hg hr, cell_kept h4 hg hr⟩) _) (OwnFrom.and (Own.from (fun s A B row ⟨X, h1, h2⟩ hg hr => ⟨X, own_rows h1 hg hr, h2⟩) _) (ownFrom_below (Nat.le_refl _) (by omega)))
  case hIx => exact fun c s A B row hs hg hr => hs
  case h0 =>
    refine ⟨⟨d0, c0', c1', c2'⟩, ⟨_, HGR0.out, HSQ0.out, fun i j hi hj => ?_⟩, hB0⟩
    simp [fn, List.getD, hi, hj, fillF]
  case hAx => exact fun x a' => Own.from (fun s A B row ⟨Bx, h2, h3, h4⟩ hg hr => ⟨Bx, cell_kept h2 hg hr, cell_kept h3 hg hr, h4⟩) _
  case assign =>
    rintro l pre x W K ⟨⟨hb0, hb1, hb2, hb3⟩, ⟨A, hA, hsA, hfA⟩, hbel⟩ hK
    have HK := Lib.hid hK
    have HM := Lib.hid hA
    have HF := Lib.hid hfA
    have HSA := Lib.hid hsA
    have hz := hbel.size
    have HB0 := Lib.hid (show W.cell? ⟨w2.heap.size, 0, none⟩ = some (.slice (some ⟨Gm, 0, none⟩) n n) ∧ W.cell? ⟨w.heap.size, 0, none⟩ = some (.int .i64 wn) ∧ W.cell? ⟨w.heap.size + 1, 0, none⟩ = some (.slice (some ⟨bf, of, none⟩) n cap) ∧ W.cell? ⟨w.heap.size + 1 + 1, 0, none⟩ = some (.slice (some ⟨bt, ot, none⟩) n cap') from ⟨hb0, hb1, hb2, hb3⟩)
    clear hK hb0 hb1 hb2 hb3 hA hfA hsA
    rw [show encT x = #[.agg #[.int .i64 (x.1.1 : Int), .int .i64 (x.1.2.1 : Int)], .int .i64 x.1.2.2] from rfl]
    gi_wp2
    refine HK.out _ _ ((KeepsOthers.alloc _ _).from _) (fun _ => each_own (HM.out.call ((Below.refl _ W).alloc (Nat.le_refl _) _)) HSA.out) ⟨⟨cell_alloc_l _ HB0.out.1, cell_alloc_l _ HB0.out.2.1, cell_alloc_l _ HB0.out.2.2.1, cell_alloc_l _ HB0.out.2.2.2⟩, ⟨A, HM.out.call ((Below.refl _ W).alloc (Nat.le_refl _) _), HSA.out, HF.out⟩, hbel.alloc hz _⟩ ⟨W.heap.size, ?_, ?_, rfl⟩
    · go_simp
    · go_simp
  case body =>
    rintro l pre x a' W hl ⟨r, hr⟩ ⟨⟨hb0, hb1, hb2, hb3⟩, ⟨A, hA, hsA, hfA⟩, hbel⟩ ⟨Bx, hx0, hx1, rfl⟩ hlt
    have HHR := Lib.hid hr
    have hi : x.1.1 < n := x.2.1
    have hj : x.1.2.1 < n := x.2.2.1
    obtain ⟨g, rc2, hh, hg1, hg2, hg3, hg4, hg5, hg6, hst⟩ := hA.at hsA hi hj
    have hi0 : (0 : Int) ≤ x.1.1 := by omega
    have hj0 : (0 : Int) ≤ x.1.2.1 := by omega
    have hi1 : (x.1.1 : Int) < n := by omega
    have hj1 : (x.1.2.1 : Int) < n := by omega
    have hcf := HCF.out _ hi
    have hct := HCT.out _ hj
    rw [← hbel.cell (p := ⟨bf, of + x.1.1, none⟩) hbf] at hcf
    rw [← hbel.cell (p := ⟨bt, ot + x.1.2.1, none⟩) hbt] at hct
    obtain ⟨fi1, fi2⟩ := HFB.out _ hi
    obtain ⟨tj1, tj2⟩ := HTB.out _ hj
    obtain ⟨fi, hfi⟩ : ∃ q, q = f.getD x.1.1 0 := ⟨_, rfl⟩
    obtain ⟨tj, htj⟩ : ∃ q, q = t.getD x.1.2.1 0 := ⟨_, rfl⟩
    rw [← hfi] at hcf fi1 fi2
    rw [← htj] at hct tj1 tj2
    have hval : waysZ wn (tj - fi) = wayF wn f t x.1.1 x.1.2.1 := by rw [hfi, htj]; rfl
    have HVAL := Lib.hid hval
    have hww : IntKind.i64.wrap (tj - fi) = tj - fi := IntWalk.i64_in _ (by omega)
    have hzf := World.block_lt_of_cell? _ _ hcf
    have hzt := World.block_lt_of_cell? _ _ hct
    have hzx := World.block_lt_of_cell? _ _ hx0
    have hzm := World.block_lt_of_cell? _ _ hb0
    have hzg := World.block_lt_of_cell? _ _ hh
    have hz0 := World.block_lt_of_cell? _ _ hb1
    have hz1' := World.block_lt_of_cell? _ _ hb2
    have hz2' := World.block_lt_of_cell? _ _ hb3
    dsimp only at hzf hzt hzx hzm hzg hz0 hz1' hz2'
    have HM := Lib.hid hA
    have HF := Lib.hid hfA
    have HST := Lib.hid (fun (W5 : World) (hC : Below W.heap.size W W5) => ((hA.call hC).storeAt hsA hi hj hg4 (waysZ wn (tj - fi))))
    have HSA := Lib.hid hsA
    have hsz := hbel.size
    have HB0 := Lib.hid (show W.cell? ⟨w2.heap.size, 0, none⟩ = some (.slice (some ⟨Gm, 0, none⟩) n n) ∧ W.cell? ⟨w.heap.size, 0, none⟩ = some (.int .i64 wn) ∧ W.cell? ⟨w.heap.size + 1, 0, none⟩ = some (.slice (some ⟨bf, of, none⟩) n cap) ∧ W.cell? ⟨w.heap.size + 1 + 1, 0, none⟩ = some (.slice (some ⟨bt, ot, none⟩) n cap') from ⟨hb0, hb1, hb2, hb3⟩)
    have HG4 := Lib.hid hg4
    clear hst hA hfA hr hsA hval hg4 hfi htj
    have hpl : (pre ++ [x]).map pl = pre.map pl ++ [(x.1.1, x.1.2.1)] := by rw [List.map_append]; rfl
    have HPL := Lib.hid hpl
    clear hpl
    gi_wp2
    refine wpIn_region_quiet_tailR (C := Cls W.heap.size W) 20 (by kernel_rfl) (by kernel_rfl) (by kernel_rfl) Cls.start ?_
    simp only [List.take_succ_cons, List.take_zero, List.drop_succ_cons, List.drop_zero]
    repeat
      (refine wpQuiet_step (fun K hK => ?_)
       go_simp
       first
         | (refine hK _ ?_; clear hK K)
         | (apply Exists.intro
            refine ⟨fun w' hC => ?_, hK _ ?_⟩
            · (obtain ⟨hr, hr2⟩ := hC.rules
               first
                 | (go_at_call 9; exact Cls.call hC (Nat.le_refl _) (Ways_of wn (tj - fi) _ (by omega) (by omega) (by omega)))
                 | (go_simp; done)
                 | (go_simp; rfl))
            clear hK K))
    refine wpQuiet_nil ?_
    intro W5 hW5
    obtain ⟨hcc, hff⟩ := hW5.rules
    gi_wp2
    have hko : KeepsOthers W W5 := ⟨hW5.size, fun k o hk hko => (hW5.block k (Array.getElem?_eq_some_iff.1 hk).1).trans hk⟩
    have hgv : g < w2.heap.size := HVB.out.2 _ g (by rw [HG4.out]; rfl)
    have hst := HST.out _ hW5
    have key : ∀ {bb : Nat} {v : Value}, bb ≠ g → W5.cell? ⟨bb, 0, none⟩ = some v → (W5.setCell ⟨g, x.1.2.1, none⟩ (.int .i64 (waysZ wn (tj - fi)))).cell? ⟨bb, 0, none⟩ = some v := fun hne hv =>
      (grown_setCell W5 g x.1.2.1 _).cell hv (by intro he; have he := Option.some.inj he; dsimp only at he; omega)
    refine ⟨(hko.trans (KeepsOthers.setCell _ _ _)).from _, fun _ => each_own hst (put_sq HSA.out _ _ _), ⟨⟨key (by omega) (by rw [hcc _ _ hzm]; exact HB0.out.1), key (by omega) (by rw [hcc _ _ hz0]; exact HB0.out.2.1), key (by omega) (by rw [hcc _ _ hz1']; exact HB0.out.2.2.1), key (by omega) (by rw [hcc _ _ hz2']; exact HB0.out.2.2.2)⟩,
      ⟨_, hst, put_sq HSA.out _ _ _, fun i j hi' hj' => ?_⟩, (hbel.trans (hW5.mono hsz)).setCell (p := ⟨g, x.1.2.1, none⟩) (by show w.heap.size ≤ g; omega) _⟩⟩
    rw [HPL.out, fn_put HSA.out hi hj, fill_next, HVAL.out, HF.out i j hi' hj']
  case done =>
    rintro D xs W hD hS ⟨⟨hb0, hb1, hb2, hb3⟩, ⟨A, hA, hsA, hfA⟩, hbel⟩ hK
    have HM := Lib.hid hA
    have HF := Lib.hid hfA
    have HS := Lib.hid hS
    clear hS hA hfA
    gi_wp2
    have hra := HM.out.read
    rw [hsA.1] at hra
    refine ⟨trivial, (callsIn_wide.2 (Det_any n _ _ A _ (by omega) (Nat.le_refl _) hsA hra)).mono ?_⟩
    rintro e w5 ⟨rfl, hb5⟩
    gi_wp2
    have hK' : w5.heap[D]? = some (.deferred (some [])) := (hb5.block D (Array.getElem?_eq_some_iff.1 hK).1).trans hK
    refine ⟨by simp, .inl ⟨_, _, rfl, run_takeDeferred hK', ?_⟩⟩
    have hfin : wrap64 (detN n A) = apartV wn f t := by
      have he : ∀ i j, i < n → j < n → fn A i j = wayF wn f t i j := by
        intro i j hi hj
        rw [HF.out i j hi hj, HS.out]
        unfold fillF
        rw [if_pos (mem_allPl.2 ⟨hi, hj⟩)]
      have hb := apart_bd wn f t
      have e : detN n A = apartV wn f t := by
        rw [detN_G, G_congr (-1) n he]
        unfold apartV
        rw [if_pos HE.out, HFL.out, Int.toNat_natCast]
      rw [e, wrap_in (by omega) (by omega)]
    rw [hfin]
    refine ⟨_, results_tmp2 rfl _ _ _, rfl, (hbel.trans (hb5.mono hbel.size)).trans (belowK_b (w := w) (Nat.le_refl _) w5 D _ _ (by omega) hK' rfl rfl)⟩
  case stop =>
    intro D c pre W hD hpre h hK
    exact h.elim
theorem Apart_any (width : Int) (a b : Option Addr) (n m cap cap' : Nat) (f t : List Int) (w : World) (hf : IntsAt w a n f) (ht : IntsAt w b m t) (hn : n ≤ 9223372036854775807) (hm : m ≤ 9223372036854775807) :
    Calls Try.prog 5 #[.int .i64 width, .slice a n cap, .slice b m cap'] w fun e w' => e = .returned (.tuple #[.int .i64 (apartV width f t), errV (pathErr width f t)]) ∧ Below w.heap.size w w' := by
  by_cases he : pathErr width f t = 0
  · obtain ⟨_, _, _, _, hl, _, _⟩ := pathErr_good he
    have h1 := hf.1
    have h2 := ht.1
    obtain rfl : m = n := by omega
    rw [he]
    exact Apart_good width a b m cap cap' f t w hf ht he
  · have hv : apartV width f t = 0 := by unfold apartV; rw [if_neg he]
    rw [hv]
    exact Apart_bad width a b n m cap cap' f t w hf ht hn hm he
end Go.Proofs.Ythbfeecbaanegaa
