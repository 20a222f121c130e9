/- Rows whose block is the call's own, and which are read only: rows of others may be put among them. -/
import Derived.Test.YtijlhdgagaehaaaDoorMem
namespace Go.Proofs.YtijlhdgagaehaaaDoor
open Go.RowKit
set_option linter.unusedVariables false
set_option linter.unusedSimpArgs false

/-- v reads as a row, and does not lie in block G -/
def ReadV (w : World) (G : Nat) (v : Value) (row : List Int) : Prop :=
  ∃ ra rc, v = .slice ra row.length rc ∧ row.length ≤ rc ∧ rc ≤ maxLen ∧ (ra = none → rc = 0) ∧ IntsAt w ra row.length row ∧ (0 < row.length → ∀ x, ra = some x → x.block ≠ G)
/-- block G holds the rows' headers -/
def MixRows (w : World) (B G cap : Nat) (vs : List Value) (rows : List (List Int)) : Prop :=
  w.ownsRow B 23 1 (.slice (some ⟨G, 0, none⟩) vs.length cap) vs.length vs ∧ vs.length = rows.length ∧ ∀ i, i < rows.length → ReadV w G (vs.getD i undef) (rows.getD i [])

theorem ReadV.kept {w w' : World} {G : Nat} {v : Value} {row : List Int} {r : Option Nat} (h : ReadV w G v row) (hg : w.grownBy w' r) (hr : ∀ k, r = some k → k = G) : ReadV w' G v row := by
  obtain ⟨ra, rc, e, h1, h2, h3, h4, h5⟩ := h
  refine ⟨ra, rc, e, h1, h2, h3, ⟨h4.1, fun i hi => ?_⟩, h5⟩
  obtain ⟨b, off, hb, hc⟩ := h4.2 i hi
  refine ⟨b, off, hb, hg.cell hc ?_⟩
  intro he
  exact h5 (by omega) _ hb (hr _ he.symm)
theorem ReadV.call {w w' : World} {G : Nat} {v : Value} {row : List Int} (h : ReadV w G v row) (hb : Below w.heap.size w w') : ReadV w' G v row := h.kept (below_grown hb) (fun k e => by cases e)
theorem MixRows.call {w w' : World} {B G cap : Nat} {vs : List Value} {rows : List (List Int)} (h : MixRows w B G cap vs rows) (hb : Below w.heap.size w w') : MixRows w' B G cap vs rows :=
  ⟨World.ownsRow.kept h.1 (below_grown hb) (by simp [Value.ownBlock]), h.2.1, fun i hi => (h.2.2 i hi).call hb⟩
theorem MixRows.put {w : World} {B G cap : Nat} {vs : List Value} {rows : List (List Int)} (h : MixRows w B G cap vs rows) {k : Nat} (hk : k < rows.length) {u : Value} {row : List Int} (hu : ReadV w G u row) :
    MixRows (w.setCell ⟨G, k, none⟩ u) B G cap (vs.set k u) (rows.set k row) := by
  have st := World.ownsRow.stored h.1 k u
  refine ⟨by rw [List.length_set]; exact st.1, by simp [h.2.1], fun i hi => ?_⟩
  rw [List.length_set] at hi
  by_cases hik : k = i
  · subst hik
    rw [getD_set_eq _ _ _ _ (by rw [h.2.1]; exact hk), getD_set_eq _ _ _ _ hk]
    exact hu.kept st.2 (fun k e => by cases e; rfl)
  · rw [getD_set_ne _ _ _ _ _ hik, getD_set_ne _ _ _ _ _ hik]
    exact (h.2.2 i hi).kept st.2 (fun k e => by cases e; rfl)
theorem MixRows.cell {w : World} {B G cap : Nat} {vs : List Value} {rows : List (List Int)} (h : MixRows w B G cap vs rows) {k : Nat} (hk : k < rows.length) : w.cell? ⟨G, k, none⟩ = some (vs.getD k undef) := by
  rw [World.ownsRow.cellAt h.1 k (by rw [h.2.1]; omega)]
  have : k < vs.length := by rw [h.2.1]; exact hk
  simp [this, List.getD]
theorem MixRows.free {w : World} {B G cap : Nat} {vs : List Value} {rows : List (List Int)} (h : MixRows w B G cap vs rows) (k : Nat) : w.frozen? ⟨G, k, none⟩ = false := World.ownsRow.frozenAt h.1 k
theorem MixRows.base {w : World} {B G cap : Nat} {vs : List Value} {rows : List (List Int)} (h : MixRows w B G cap vs rows) : B ≤ G ∧ G < w.heap.size := h.1.lt G rfl
theorem MixRows.read {w : World} {B G cap : Nat} {vs : List Value} {rows : List (List Int)} (h : MixRows w B G cap vs rows) {k : Nat} (hk : k < rows.length) : ReadV w G (vs.getD k undef) (rows.getD k []) := h.2.2 k hk
/-- one row's header, as the walk reads it -/
theorem MixRows.row {w : World} {B G cap : Nat} {vs : List Value} {rows : List (List Int)} (h : MixRows w B G cap vs rows) {k : Nat} (hk : k < rows.length) :
    ∃ ra rc, vs.getD k undef = .slice ra (rows.getD k []).length rc ∧ w.cell? ⟨G, k, none⟩ = some (.slice ra (rows.getD k []).length rc) ∧ ReadV w G (.slice ra (rows.getD k []).length rc) (rows.getD k []) := by
  have hc := h.cell hk
  have hr := h.read hk
  obtain ⟨ra, rc, e, h1⟩ := h.read hk
  rw [e] at hc hr
  exact ⟨ra, rc, e, hc, hr⟩
theorem MixRows.rowsAt {w : World} {B G cap : Nat} {vs : List Value} {rows : List (List Int)} (h : MixRows w B G cap vs rows) : RowsAt w (some ⟨G, 0, none⟩) rows.length rows := by
  refine ⟨rfl, fun i hi => ?_⟩
  obtain ⟨ra, rc, e, h1, h2, h3, h4, h5⟩ := h.read hi
  exact ⟨G, 0, ra, rc, rfl, by rw [Nat.zero_add, h.cell hi, e], h1, h2, h3, h4⟩
theorem MixRows.cap_le {w : World} {B G cap : Nat} {vs : List Value} {rows : List (List Int)} (h : MixRows w B G cap vs rows) : rows.length ≤ cap := by
  rcases h.1.2 with ⟨e, _⟩ | ⟨g, cap', cur, e, _, _, h1, _⟩
  · simp at e
  · simp only [Value.slice.injEq] at e
    rw [← h.2.1, e.2.2]
    simpa using h1

theorem OwnRowsV.mix {w : World} {B G n cap : Nat} {vs : List Value} {rows : List (List Int)} (h : OwnRowsV w B (.slice (some ⟨G, 0, none⟩) n cap) vs rows) : MixRows w B G cap vs rows := by
  obtain ⟨hV, hl, hrows, hdis⟩ := h
  have hn : n = vs.length := by
    rcases hV.2 with ⟨h1, _⟩ | ⟨g, cap', cur, h1, _⟩
    · simp at h1
    · simp at h1; exact h1.2.1
  subst hn
  refine ⟨hV, hl, fun i hi => ?_⟩
  obtain ⟨ra, rc, e, e1, e2, e2', e3⟩ := (hrows i hi).shape
  refine ⟨ra, rc, e, e1, e2, e2', e3, ?_⟩
  intro _ x hx he
  have hne := own_ne (hrows i hi) hV
  rcases (hrows i hi).2 with ⟨h1, _⟩ | ⟨g, cap', cur, h1, _⟩
  · rw [h1] at e; simp only [Value.slice.injEq] at e; rw [hx] at e; cases e.1
  · rw [h1] at e hne
    simp only [Value.slice.injEq] at e
    rw [hx] at e
    have : x = ⟨g, 0, none⟩ := by simpa using e.1.symm
    subst this
    simp only [Value.ownBlock] at hne
    rcases hne with h | h
    · cases h
    · exact h (by rw [show g = G from he])
theorem OwnRows.mix {w : World} {B : Nat} {v : Value} {rows : List (List Int)} (h : OwnRows w B v rows) (h0 : 0 < rows.length) : ∃ G cap vs, v = .slice (some ⟨G, 0, none⟩) rows.length cap ∧ MixRows w B G cap vs rows := by
  obtain ⟨vs, hv⟩ := h.vals
  obtain ⟨a, cap, e, h1, h2, h3⟩ := hv.1.cell
  obtain ⟨g, rfl, _⟩ := h3 0 (by rw [hv.2.1]; exact h0)
  subst e
  rw [hv.2.1] at hv ⊢
  exact ⟨g, cap, vs, rfl, hv.mix⟩
/-- a row of rows that were there before block G -/
theorem readV_of {w : World} {b off n G : Nat} {rows : List (List Int)} (h : RowsAt w (some ⟨b, off, none⟩) n rows) {i : Nat} (hi : i < n) {w' : World} (hb : Below w.heap.size w w') (hG : w.heap.size ≤ G) :
    ∃ ra rc, w'.cell? ⟨b, off + i, none⟩ = some (.slice ra (rows.getD i []).length rc) ∧ ReadV w' G (.slice ra (rows.getD i []).length rc) (rows.getD i []) := by
  obtain ⟨ra, rc, hc, h1, h2, h2', h3⟩ := h.row hi
  refine ⟨ra, rc, by rw [hb.cell (p := ⟨b, off + i, none⟩) (World.block_lt_of_cell? _ _ hc)]; exact hc, ra, rc, rfl, h1, h2, h2', h3.call hb, ?_⟩
  intro h0 x hx he
  obtain ⟨b2, off2, e, hb2, _⟩ := h3.some h0
  rw [hx] at e
  obtain rfl : x = ⟨b2, off2, none⟩ := by simpa using e
  have : b2 = G := he
  omega
end Go.Proofs.YtijlhdgagaehaaaDoor
