/- A slice of integers of the call's own: its block, its cells, a store into it. -/
import Derived.Test.YtabenflchnobmaaDoorMem
import Derived.Test.YtabenflchnobmaaDoorAlg
namespace Go.Proofs.YtabenflchnobmaaDoor
open Go.RowKit
set_option linter.unusedVariables false
set_option linter.unusedSimpArgs false

theorem OwnInts.block {w : World} {B : Nat} {v : Value} {xs : List Int} (h : OwnInts w B v xs) (hp : 0 < xs.length) : ∃ g cap, v = .slice (Option.some ⟨g, 0, none⟩) xs.length cap ∧ B ≤ g ∧ g < w.heap.size := by
  have h' : w.ownsRow B 3 1 v xs.length (xs.map (Value.int .i64)) := h
  rcases h.2 with ⟨_, hn⟩ | ⟨g, cap, cur, rfl, hg, _⟩
  · omega
  · exact ⟨g, cap, rfl, hg, (h'.lt g rfl).2⟩
theorem OwnInts.put {w : World} {B g n cap : Nat} {xs : List Int} (h : OwnInts w B (.slice (Option.some ⟨g, 0, none⟩) n cap) xs) : n = xs.length ∧ ∀ j, j < n → w.cell? ⟨g, j, none⟩ = some (.int .i64 (xs.getD j 0)) ∧ w.frozen? ⟨g, j, none⟩ = false ∧ ∀ x, OwnInts (w.setCell ⟨g, j, none⟩ (.int .i64 x)) B (.slice (Option.some ⟨g, 0, none⟩) n cap) (xs.set j x) := by
  have hn : n = xs.length := by
    rcases h.2 with ⟨h1, _⟩ | ⟨g', cap', cur, h1, _⟩
    · simp at h1
    · simp at h1; exact h1.2.1
  subst hn
  have ho : w.ownsRow B 3 1 (.slice (Option.some ⟨g, 0, none⟩) xs.length cap) xs.length (xs.map (Value.int .i64)) := h
  refine ⟨rfl, fun j hj => ⟨?_, ho.frozenAt j, fun x => ?_⟩⟩
  · rw [ho.cellAt j (by omega)]
    simp [hj, List.getD]
  · have st := ho.stored j (.int .i64 x)
    unfold OwnInts
    rw [List.length_set, List.map_set]
    exact st.1
end Go.Proofs.YtabenflchnobmaaDoor
