/- Two slices of slices that grow side by side. -/
import Derived.Test.YtinekiclcccpbaaMem
import Derived.Test.YtinekiclcccpbaaOwn2
import Derived.RangeFuncRecord
namespace Go.Proofs.Ytinekiclcccpbaa
open Go.RowKit
set_option linter.unusedVariables false
set_option linter.unusedSimpArgs false

/-- u is a slice of the integers xs; its block was there at the start (below B) or holds integers -/
def Ok (w : World) (B : Nat) (u : Value) (xs : List Int) : Prop :=
  ∃ ra rc, u = .slice ra xs.length rc ∧ xs.length ≤ rc ∧ rc ≤ maxLen ∧ (ra = none → rc = 0) ∧ IntsAt w ra xs.length xs ∧
    ∀ a, ra = some a → a.block < w.heap.size ∧ (a.block < B ∨ ∃ cur fz, w.heap[a.block]? = some (.cells cur 3 fz))
/-- a block of slices, of the call's own -/
def Own (w : World) (B : Nat) (r : Option Nat) : Prop := ∀ k, r = some k → B ≤ k ∧ ∃ cur fz, w.heap[k]? = some (.cells cur 29 fz)
theorem int_ne : 3 ≠ 29 := by decide
theorem Ok.grow {w w' : World} {B : Nat} {u : Value} {xs : List Int} {r : Option Nat} (h : Ok w B u xs) (hg : w.grownBy w' r) (hr : Own w B r) : Ok w' B u xs := by
  obtain ⟨ra, rc, rfl, h1, h2, h3, h4, h5⟩ := h
  have key : ∀ a, ra = some a → w'.heap[a.block]? = w.heap[a.block]? := by
    intro a ha
    obtain ⟨h6, h7⟩ := h5 a ha
    refine hg.block _ h6 ?_
    intro he
    obtain ⟨g1, cur, fz, g2⟩ := hr _ he.symm
    rcases h7 with h7 | ⟨cur', fz', h7⟩
    · omega
    · rw [h7] at g2
      simp only [Option.some.injEq, Obj.cells.injEq] at g2
      exact int_ne g2.2.1
  refine ⟨ra, rc, rfl, h1, h2, h3, ⟨h4.1, fun i hi => ?_⟩, fun a ha => ?_⟩
  · obtain ⟨b, off, e, hc⟩ := h4.2 i hi
    refine ⟨b, off, e, ?_⟩
    rw [World.cell?_of_block (a := ⟨b, off + i, none⟩) (key ⟨b, off, none⟩ e)]
    exact hc
  · obtain ⟨h6, h7⟩ := h5 a ha
    refine ⟨Nat.lt_of_lt_of_le h6 hg.size, ?_⟩
    rw [key a ha]
    exact h7
theorem OwnVals.own {w : World} {B : Nat} {v : Value} {vs : List Value} (h : OwnVals w B v vs) : Own w B v.ownBlock := by
  intro k hk
  rcases h.2 with ⟨rfl, hn⟩ | ⟨g, cap, cur, rfl, hg, hb, h1, h2, h3, h4⟩
  · cases hk
  · cases hk
    exact ⟨hg, _, _, hb⟩
/-- two slices of slices, apart -/
structure Two (w : World) (B : Nat) (vL : Value) (ls : List Value) (L : List (List Int)) (vJ : Value) (js : List Value) (J : List (List Int)) : Prop where
  own1 : OwnVals w B vL ls
  own2 : OwnVals w B vJ js
  ne : ∀ k, vL.ownBlock = some k → vJ.ownBlock ≠ some k
  len1 : ls.length = L.length
  len2 : js.length = J.length
  ok1 : ∀ i, i < L.length → Ok w B (ls.getD i undef) (L.getD i [])
  ok2 : ∀ i, i < J.length → Ok w B (js.getD i undef) (J.getD i [])
theorem Two.nil (w : World) (B : Nat) : Two w B (.slice none 0 0) [] [] (.slice none 0 0) [] [] :=
  ⟨World.ownsRow_nil _ _ _ _, World.ownsRow_nil _ _ _ _, (fun k hk => by cases hk), rfl, rfl, fun i hi => absurd hi (Nat.not_lt_zero i), fun i hi => absurd hi (Nat.not_lt_zero i)⟩
theorem Two.symm {w : World} {B : Nat} {vL vJ : Value} {ls js : List Value} {L J : List (List Int)} (h : Two w B vL ls L vJ js J) : Two w B vJ js J vL ls L :=
  ⟨h.own2, h.own1, fun k hk he => h.ne k he hk, h.len2, h.len1, h.ok2, h.ok1⟩
theorem ne_none (o : Option Nat) : o = none ∨ o ≠ none := by cases o <;> simp
theorem own_none (w : World) (B : Nat) : Own w B none := fun k hk => by cases hk
theorem Two.grow {w w' : World} {B : Nat} {vL vJ : Value} {ls js : List Value} {L J : List (List Int)} (h : Two w B vL ls L vJ js J) (hg : w.grownBy w' none) : Two w' B vL ls L vJ js J :=
  ⟨h.own1.kept hg (ne_none _), h.own2.kept hg (ne_none _), h.ne, h.len1, h.len2, fun i hi => (h.ok1 i hi).grow hg (own_none _ _), fun i hi => (h.ok2 i hi).grow hg (own_none _ _)⟩
theorem alloc_grown (w : World) (o : Obj) : w.grownBy (w.alloc o) none := below_grown ((Below.refl w.heap.size w).alloc (Nat.le_refl _) o)
theorem snoc_ok {w : World} {B : Nat} {ls : List Value} {L : List (List Int)} {u : Value} {xs : List Int} (hl : ls.length = L.length) (h : ∀ i, i < L.length → Ok w B (ls.getD i undef) (L.getD i [])) (hu : Ok w B u xs) :
    ∀ i, i < (L ++ [xs]).length → Ok w B ((ls ++ [u]).getD i undef) ((L ++ [xs]).getD i []) := by
  intro i hi
  rw [List.length_append, List.length_singleton] at hi
  by_cases hlt : i < L.length
  · have e1 : (ls ++ [u]).getD i undef = ls.getD i undef := by simp [List.getD, List.getElem?_append_left (show i < ls.length by omega)]
    have e2 : (L ++ [xs]).getD i [] = L.getD i [] := by simp [List.getD, List.getElem?_append_left hlt]
    rw [e1, e2]
    exact h i hlt
  · have hi' : i = L.length := by omega
    have e1 : (ls ++ [u]).getD i undef = u := by rw [hi', ← hl]; simp [List.getD]
    have e2 : (L ++ [xs]).getD i [] = xs := by rw [hi']; simp [List.getD]
    rw [e1, e2]
    exact hu
/-- one element more -/
theorem Two.snoc {w w' : World} {B : Nat} {vL vJ v3 u : Value} {ls js : List Value} {L J : List (List Int)} {xs : List Int} (h : Two w B vL ls L vJ js J) (hu : Ok w B u xs)
    (h3 : w'.ownsRow B 29 1 v3 (ls.length + 1) (ls ++ [u])) (hg : w.grownBy w' vL.ownBlock) (hk : ∀ k, v3.ownBlock = some k → vL.ownBlock = some k ∨ w.heap.size ≤ k) :
    Two w' B v3 (ls ++ [u]) (L ++ [xs]) vJ js J := by
  refine ⟨?_, ?_, ?_, by simp [h.len1], h.len2, ?_, ?_⟩
  · have : (ls ++ [u]).length = ls.length + 1 := by simp
    unfold OwnVals
    rw [this]
    exact h3
  · refine h.own2.kept hg ?_
    cases hj : vJ.ownBlock with
    | none => exact Or.inl rfl
    | some q =>
      refine Or.inr fun he => ?_
      exact h.ne q he.symm hj
  · intro k he hj
    rcases hk k he with h1 | h1
    · exact h.ne k h1 hj
    · have := (World.ownsRow.lt h.own2 k hj).2
      omega
  · refine snoc_ok h.len1 (fun i hi => (h.ok1 i hi).grow hg h.own1.own) (hu.grow hg h.own1.own)
  · exact fun i hi => (h.ok2 i hi).grow hg h.own1.own
theorem Two.rows {w : World} {B : Nat} {vL vJ : Value} {ls js : List Value} {L J : List (List Int)} (h : Two w B vL ls L vJ js J) : ∃ a cap, vL = .slice a L.length cap ∧ L.length ≤ cap ∧ cap ≤ maxLen ∧ RowsAt w a L.length L := by
  obtain ⟨a, cap, e, h1, h2, h3⟩ := h.own1.cell
  rw [h.len1] at e h1 h3
  refine ⟨a, cap, e, h1, h2, rfl, fun i hi => ?_⟩
  obtain ⟨g, hg, hc⟩ := h3 i hi
  obtain ⟨ra, rc, e2, r1, r2, r3, r4, _⟩ := h.ok1 i hi
  refine ⟨g, 0, ra, rc, hg, ?_, r1, r2, r3, r4⟩
  rw [Nat.zero_add]
  rw [← e2]
  exact hc
theorem ok_old {w w' : World} {ra : Option Addr} {rc : Nat} {xs : List Int} (h : IntsAt w ra xs.length xs) (hb : Below w.heap.size w w') (h1 : xs.length ≤ rc) (h2 : rc ≤ maxLen) (h3 : ra = none → rc = 0) (hl : 0 < xs.length) : Ok w' w.heap.size (.slice ra xs.length rc) xs := by
  refine ⟨ra, rc, rfl, h1, h2, h3, h.call hb, fun a ha => ?_⟩
  obtain ⟨b, off, e, hc⟩ := h.2 0 hl
  rw [e] at ha
  cases ha
  have := World.block_lt_of_cell? _ _ hc
  exact ⟨Nat.lt_of_lt_of_le this hb.size, Or.inl this⟩
theorem ok_new {w : World} (B : Nat) (x y : Int) : Ok (w.alloc (.cells #[.int .i64 x, .int .i64 y] 3)) B (.slice (some ⟨w.heap.size, 0, none⟩) 2 2) [x, y] := by
  refine ⟨_, _, rfl, by simp, by decide, (fun h => by cases h), IntsAt_two _ _ _ _ (by simp) (by simp), fun a ha => ?_⟩
  cases ha
  refine ⟨by simp, Or.inr ?_⟩
  exact ⟨#[.int .i64 x, .int .i64 y], (0, 0), World.alloc_heap_new _ _⟩
end Go.Proofs.Ytinekiclcccpbaa
