/- Two matrices of the call's own, written element by element; what a store makes of their entries. -/
import Derived.Test.YtghgekimeglogaaDoorBase
import Derived.Test.YtghgekimeglogaaDoorAlg
namespace Go.Proofs.YtghgekimeglogaaDoor
open Go.RowKit
set_option linter.unusedVariables false
set_option linter.unusedSimpArgs false

theorem grown_setCell (w : World) (g j : Nat) (u : Value) : w.grownBy (w.setCell ⟨g, j, none⟩ u) (some g) := by
  exact ⟨rfl, rfl, rfl, by simp, fun k _ hk => heap_setCell_other w ⟨g, j, none⟩ k u (fun e => hk (by rw [e]))⟩

/-- all blocks of the rows lie below Bb -/
def RowsBelow (Bb : Nat) (v : Value) (vs : List Value) : Prop := (∀ k, v.ownBlock = some k → k < Bb) ∧ ∀ i k, (vs.getD i undef).ownBlock = some k → k < Bb

theorem OwnRowsV.keptBy {w w' : World} {B : Nat} {v : Value} {vs : List Value} {rows : List (List Int)} (h : OwnRowsV w B v vs rows) {g : Nat} (hg : w.grownBy w' (some g)) (h1 : v.ownBlock ≠ some g) (h2 : ∀ i, i < rows.length → (vs.getD i undef).ownBlock ≠ some g) : OwnRowsV w' B v vs rows := by
  obtain ⟨hV, hl, hr, hd⟩ := h
  exact ⟨hV.kept hg (Or.inr h1), hl, fun i hi => (hr i hi).kept hg (Or.inr (h2 i hi)), hd⟩
theorem OwnRowsV.storeLow {w : World} {Bb : Nat} {v : Value} {vs : List Value} {rows : List (List Int)} (h : OwnRowsV w Bb v vs rows) {g : Nat} (hg : g < Bb) (j : Nat) (u : Value) : OwnRowsV (w.setCell ⟨g, j, none⟩ u) Bb v vs rows := by
  refine h.keptBy (grown_setCell w g j u) (fun e => ?_) (fun i hi e => ?_)
  · have := (h.1.lt g e).1; omega
  · have := ((h.2.2.1 i hi).lt g e).1; omega
theorem OwnRowsV.storeHigh {w : World} {B Bb : Nat} {v : Value} {vs : List Value} {rows : List (List Int)} (h : OwnRowsV w B v vs rows) (hb : RowsBelow Bb v vs) {g : Nat} (hg : Bb ≤ g) (j : Nat) (u : Value) : OwnRowsV (w.setCell ⟨g, j, none⟩ u) B v vs rows := by
  refine h.keptBy (grown_setCell w g j u) (fun e => ?_) (fun i hi e => ?_)
  · have := hb.1 g e; omega
  · have := hb.2 i g e; omega
theorem OwnRowsV.bound {w : World} {B : Nat} {v : Value} {vs : List Value} {rows : List (List Int)} (h : OwnRowsV w B v vs rows) : RowsBelow w.heap.size v vs := by
  refine ⟨fun k hk => (h.1.lt k hk).2, fun i k hk => ?_⟩
  by_cases hi : i < rows.length
  · exact ((h.2.2.1 i hi).lt k hk).2
  · have : vs.getD i undef = undef := by rw [List.getD_eq_getElem?_getD, List.getElem?_eq_none (by rw [h.2.1]; omega)]; rfl
    rw [this] at hk
    cases hk
theorem OwnRowsV.isRows {w : World} {B : Nat} {v : Value} {vs : List Value} {rows : List (List Int)} (h : OwnRowsV w B v vs rows) (h0 : 0 < rows.length) : ∃ G cap, v = .slice (some ⟨G, 0, none⟩) rows.length cap ∧ rows.length ≤ cap := by
  obtain ⟨a, cap, e, h1, h2, h3⟩ := h.1.cell
  obtain ⟨g, rfl, _⟩ := h3 0 (by rw [h.2.1]; exact h0)
  rw [h.2.1] at e h1
  exact ⟨g, cap, e, h1⟩

/-- one element stored -/
def putE (A : List (List Int)) (i j : Nat) (x : Int) : List (List Int) := A.set i ((A.getD i []).set j x)
theorem put_sq {n : Nat} {A : List (List Int)} (h : Sq n A) (i j : Nat) (x : Int) : Sq n (putE A i j x) := by
  refine ⟨by unfold putE; rw [List.length_set]; exact h.1, fun k hk => ?_⟩
  unfold putE
  by_cases hik : i = k
  · subst hik
    rw [getD_set_eq _ _ _ _ (by rw [h.1]; exact hk), List.length_set]
    exact h.2 i hk
  · rw [getD_set_ne _ _ _ _ _ hik]; exact h.2 k hk
theorem fn_put {n : Nat} {A : List (List Int)} (h : Sq n A) {i j : Nat} (hi : i < n) (hj : j < n) (x : Int) (a b : Nat) : fn (putE A i j x) a b = if a = i ∧ b = j then x else fn A a b := by
  unfold fn putE
  by_cases h1 : i = a
  · subst h1
    rw [getD_set_eq _ _ _ _ (by rw [h.1]; exact hi)]
    by_cases h2 : j = b
    · subst h2
      rw [getD_set_eq _ _ _ _ (by rw [h.2 i hi]; exact hj), if_pos ⟨rfl, rfl⟩]
    · rw [getD_set_ne _ _ _ _ _ h2, if_neg (fun h => h2 h.2.symm)]
  · rw [getD_set_ne _ _ _ _ _ h1, if_neg (fun h => h1 h.1.symm)]

theorem OwnRowsV.read {w : World} {B G n cap : Nat} {vs : List Value} {A : List (List Int)} (h : OwnRowsV w B (.slice (some ⟨G, 0, none⟩) n cap) vs A) : RowsAt w (some ⟨G, 0, none⟩) A.length A := by
  obtain ⟨a2, cap2, e2, hc1, hc2, hra⟩ := h.rows.rowsAt
  simp only [Value.slice.injEq] at e2
  rw [e2.1]
  exact hra
/-- one element: its row's header, its cell, and what a store makes -/
theorem OwnRowsV.at {w : World} {B G n cap : Nat} {vs : List Value} {A : List (List Int)} (h : OwnRowsV w B (.slice (some ⟨G, 0, none⟩) n cap) vs A) (hs : Sq n A) {i j : Nat} (hi : i < n) (hj : j < n) :
    ∃ g rc, w.cell? ⟨G, i, none⟩ = some (.slice (some ⟨g, 0, none⟩) n rc) ∧ B ≤ g ∧ g < w.heap.size ∧ g ≠ G ∧ vs.getD i undef = .slice (some ⟨g, 0, none⟩) n rc ∧ w.frozen? ⟨g, j, none⟩ = false ∧ w.cell? ⟨g, j, none⟩ = some (.int .i64 (fn A i j)) ∧
      ∀ x, OwnRowsV (w.setCell ⟨g, j, none⟩ (.int .i64 x)) B (.slice (some ⟨G, 0, none⟩) n cap) vs (putE A i j x) := by
  have hi' : i < A.length := by rw [hs.1]; exact hi
  obtain ⟨g, rc, e, h1, h2, h3, h4, h5⟩ := h.elem hi' (by rw [hs.2 i hi]; omega)
  rw [hs.2 i hi] at e
  refine ⟨g, rc, by rw [h.isCell hi', e], h1, h2, h.ne0 hi' e, e, h3 j, ?_, fun x => h5 j x⟩
  rw [h4 j (by rw [hs.2 i hi]; exact hj)]
  rfl

/-- a store into the first of two matrices, and a draw -/
theorem store_first {w wr : World} {B Bb Ga n capa g j : Nat} {vb : Value} {vsa vsb : List Value} {A1 C : List (List Int)} {u : Value} (hB : B ≤ wr.heap.size) (hC : OwnRowsV wr Bb vb vsb C) (hbd : RowsBelow Bb (.slice (some ⟨Ga, 0, none⟩) n capa) vsa)
    (hst : OwnRowsV (wr.setCell ⟨g, j, none⟩ u) B (.slice (some ⟨Ga, 0, none⟩) n capa) vsa A1) {i : Nat} {rc : Nat} (he : vsa.getD i undef = .slice (some ⟨g, 0, none⟩) n rc) (hg : B ≤ g) (hbel : Below B w wr) :
    OwnRowsV (wr.setCell ⟨g, j, none⟩ u).drew B (.slice (some ⟨Ga, 0, none⟩) n capa) vsa A1 ∧ OwnRowsV (wr.setCell ⟨g, j, none⟩ u).drew Bb vb vsb C ∧ Below B w (wr.setCell ⟨g, j, none⟩ u).drew := by
  have hlt : g < Bb := hbd.2 i g (by rw [he]; rfl)
  exact ⟨hst.call Cls.start, (hC.storeLow hlt j u).call Cls.start, (hbel.setCell (p := ⟨g, j, none⟩) hg u).trans Cls.start⟩
/-- a store into the second, and a draw -/
theorem store_second {w wr : World} {B Bb Ga n capa g j : Nat} {vb : Value} {vsa vsb : List Value} {A C1 : List (List Int)} {u : Value} (hB : B ≤ Bb) (hA : OwnRowsV wr B (.slice (some ⟨Ga, 0, none⟩) n capa) vsa A) (hbd : RowsBelow Bb (.slice (some ⟨Ga, 0, none⟩) n capa) vsa)
    (hst : OwnRowsV (wr.setCell ⟨g, j, none⟩ u) Bb vb vsb C1) (hg : Bb ≤ g) (hbel : Below B w wr) :
    OwnRowsV (wr.setCell ⟨g, j, none⟩ u).drew B (.slice (some ⟨Ga, 0, none⟩) n capa) vsa A ∧ OwnRowsV (wr.setCell ⟨g, j, none⟩ u).drew Bb vb vsb C1 ∧ Below B w (wr.setCell ⟨g, j, none⟩ u).drew :=
  ⟨(hA.storeHigh hbd hg j u).call Cls.start, hst.call Cls.start, (hbel.setCell (p := ⟨g, j, none⟩) (Nat.le_trans hB hg) u).trans Cls.start⟩
end Go.Proofs.YtghgekimeglogaaDoor
