/- Rows that a call owns, gone through while they are written. -/
import Derived.Test.YtllomialkiaccaaDoorEach
import Derived.Test.YtllomialkiaccaaDoorPut
namespace Go.Proofs.YtllomialkiaccaaDoor
open Go.RowKit Go.Shelf
set_option linter.unusedVariables false
set_option linter.unusedSimpArgs false

/-- rows that the call owns can be gone through while they are written -/
def raOf (vs : List Value) (i : Nat) : Option Addr := match vs.getD i undef with | .slice a _ _ => a | _ => none
def rcOf (vs : List Value) (i : Nat) : Nat := match vs.getD i undef with | .slice _ _ c => c | _ => 0
theorem each_own {W : World} {B G n cap : Nat} {vs : List Value} {A : List (List Int)} (h : OwnRowsV W B (.slice (some ⟨G, 0, none⟩) n cap) vs A) (hs : Sq n A) :
    EachSh (fun _ _ _ => True) (some ⟨G, 0, none⟩) n (raOf vs) (rcOf vs) (fun _ => n) W := by
  intro i hi
  obtain ⟨g, rc, h1, h2, h3, h4, h5, h6, h7, h8⟩ := h.at hs hi hi
  have e1 : raOf vs i = some ⟨g, 0, none⟩ := by unfold raOf; rw [h5]
  have e2 : rcOf vs i = rc := by unfold rcOf; rw [h5]
  refine ⟨G, 0, rfl, by rw [Nat.zero_add, h1, e1, e2], fun j hj => ?_⟩
  obtain ⟨g', rc', _, _, _, _, k5, _, k7, _⟩ := h.at hs hi hj
  rw [h5] at k5
  obtain ⟨rfl, rfl⟩ : g = g' ∧ rc = rc' := by simpa using k5
  exact ⟨g, 0, _, e1, by rw [Nat.zero_add]; exact k7, trivial⟩

theorem own_rows {W W' : World} {B : Nat} {v : Value} {vs : List Value} {rows : List (List Int)} {row : Option Nat} (h : OwnRowsV W B v vs rows) (hg : W.grownBy W' row) (hr : ∀ r, row = some r → ∃ o : Obj, W.heap[r]? = some o ∧ o.isCells = false) : OwnRowsV W' B v vs rows := by
  obtain ⟨hV, hl, hrows, hd⟩ := h
  have key : ∀ (e : TypeId) (u : Value) (n : Nat) (xs : List Value), W.ownsRow B e 1 u n xs → u.ownBlock = none ∨ u.ownBlock ≠ row := by
    intro e u n xs hu
    rcases hu.2 with ⟨rfl, _⟩ | ⟨g, cap, cur, rfl, _, hgc, _⟩
    · left; rfl
    · right
      intro he
      obtain ⟨o, ho, hc⟩ := hr g he.symm
      rw [hgc] at ho
      cases ho
      cases hc
  exact ⟨hV.kept hg (key _ _ _ _ hV), hl, fun i hi => (hrows i hi).kept hg (key _ _ _ _ (hrows i hi)), hd⟩
/-- a turn of a block that holds no cells -/
theorem each_put {Ok : Nat → Nat → Int → Prop} {a : Option Addr} {n : Nat} {ra : Nat → Option Addr} {rc L : Nat → Nat} {W : World} {l : Nat} {o o' : Obj} (h : EachSh Ok a n ra rc L W) (ho : W.heap[l]? = some o) (hc : o.isCells = false) : EachSh Ok a n ra rc L (W.putObj l o') := by
  intro i hi
  obtain ⟨b, off, e, h1, h2⟩ := h i hi
  have key : ∀ {p : Addr} {v : Value}, W.cell? p = some v → (W.putObj l o').cell? p = some v := fun hv => cell_kept hv (grownBy_putObj' W l o') (fun r e => by cases e; exact ⟨o, ho, hc⟩)
  refine ⟨b, off, e, key h1, fun j hj => ?_⟩
  obtain ⟨b2, off2, x, e2, h3, h4⟩ := h2 j hj
  exact ⟨b2, off2, x, e2, key h3, h4⟩
theorem OwnRowsV.storeAt {w : World} {B G n cap : Nat} {vs : List Value} {A : List (List Int)} (h : OwnRowsV w B (.slice (some ⟨G, 0, none⟩) n cap) vs A) (hs : Sq n A) {i j g rc : Nat} (hi : i < n) (hj : j < n) (hg : vs.getD i undef = .slice (some ⟨g, 0, none⟩) n rc) (x : Int) :
    OwnRowsV (w.setCell ⟨g, j, none⟩ (.int .i64 x)) B (.slice (some ⟨G, 0, none⟩) n cap) vs (putE A i j x) := by
  obtain ⟨g', rc', _, _, _, _, k5, _, _, k8⟩ := h.at hs hi hj
  rw [hg] at k5
  obtain ⟨rfl, rfl⟩ : g = g' ∧ rc = rc' := by simpa using k5
  exact k8 x

/-- the places of pre are filled -/
def fillF (M : Nat → Nat → Int) (pre : List (Nat × Nat)) : Nat → Nat → Int := fun i j => if (i, j) ∈ pre then M i j else 0
theorem fill_next {M : Nat → Nat → Int} {pre : List (Nat × Nat)} {i j : Nat} (a b : Nat) : fillF M (pre ++ [(i, j)]) a b = if a = i ∧ b = j then M i j else fillF M pre a b := by
  unfold fillF
  by_cases h1 : a = i ∧ b = j
  · obtain ⟨rfl, rfl⟩ := h1
    simp
  · rw [if_neg h1]
    have : ((a, b) ∈ pre ++ [(i, j)]) = ((a, b) ∈ pre) := by simp [List.mem_append]; intro h2 h3; exact absurd ⟨h2, h3⟩ h1
    simp only [this]
def FillAt (W : World) (B G n : Nat) (vs : List Value) (M : Nat → Nat → Int) (pre : List (Nat × Nat)) : Prop := ∃ A, OwnRowsV W B (.slice (some ⟨G, 0, none⟩) n n) vs A ∧ Sq n A ∧ ∀ a b, a < n → b < n → fn A a b = fillF M pre a b
end Go.Proofs.YtllomialkiaccaaDoor
