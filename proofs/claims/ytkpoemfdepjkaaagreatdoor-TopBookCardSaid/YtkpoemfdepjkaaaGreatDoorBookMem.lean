/- A book in memory: its block, its rows, its log. -/
import Derived.Test.YtkpoemfdepjkaaaGreatDoorBase
import Derived.Lib.LaidTab
import Derived.Lib.AppendIntMem
namespace Go.Proofs.YtkpoemfdepjkaaaGreatDoor
open Go.RowKit
set_option linter.unusedVariables false
set_option linter.unusedSimpArgs false

theorem info_str : (Tryz.prog.info? 9).map (fun i => (i.zero, i.size, i.bytes)) = some (some (.string ⟨#[]⟩), 1, 16) := by kernel_rfl
/-- v owns the strings -/
def OwnStrs (w : World) (B : Nat) (v : Value) (xs : List ByteArray) : Prop := w.ownsRow B 9 1 v xs.length (xs.map Value.string)
/-- the table of the powers of ten, whatever is done from B on -/
def Tab (B : Nat) (w : World) : Prop := ∀ w', Below B w w' → Lib.TabIs Tryz.prog w' "internal/strconv.uint64pow10" .u64 Lib.pow10Tab
theorem Tab.call {B : Nat} {w w' : World} (h : Tab B w) (hb : Below B w w') : Tab B w' := fun w2 h2 => h w2 (hb.trans h2)
theorem Tab.here {B : Nat} {w : World} (h : Tab B w) : Lib.TabIs Tryz.prog w "internal/strconv.uint64pow10" .u64 Lib.pow10Tab := h w (Below.refl _ _)

/-- a book -/
structure BookAt (w : World) (B Bk G : Nat) (vs : List Value) (vl : Value) (rows : List (List Int)) (lines : List ByteArray) : Prop where
  base : B ≤ Bk
  box : w.heap[Bk]? = some (.cells #[.slice (some ⟨G, 0, none⟩) 4 4, vl] 58 (0, 0))
  own : OwnRowsV w B (.slice (some ⟨G, 0, none⟩) 4 4) vs rows
  log : OwnStrs w B vl lines
  sq : Sq 4 rows
  ent : ∀ i j, i < 4 → j < 4 → 0 ≤ fn rows i j ∧ fn rows i j < 9973
/-- what a book's work leaves alone -/
structure BKept (w w' : World) (Bk : Nat) (vs : List Value) (vl : Value) : Prop where
  os : w'.os = w.os
  tape : w'.tape = w.tape
  output : w'.output = w.output
  size : w.heap.size ≤ w'.heap.size
  block : ∀ k, k < w.heap.size → k ≠ Bk → vl.ownBlock ≠ some k → (∀ i, i < 4 → (vs.getD i undef).ownBlock ≠ some k) → w'.heap[k]? = w.heap[k]?

theorem BookAt.lt {w : World} {B Bk G : Nat} {vs : List Value} {vl : Value} {rows : List (List Int)} {lines : List ByteArray} (h : BookAt w B Bk G vs vl rows lines) : Bk < w.heap.size := by
  have := h.box
  exact (Array.getElem?_eq_some_iff.1 this).1
theorem BookAt.call {w w' : World} {B Bk G : Nat} {vs : List Value} {vl : Value} {rows : List (List Int)} {lines : List ByteArray} (h : BookAt w B Bk G vs vl rows lines) (hb : Below w.heap.size w w') : BookAt w' B Bk G vs vl rows lines :=
  ⟨h.base, by rw [hb.block _ h.lt]; exact h.box, h.own.call hb, World.ownsRow.kept h.log (below_grown hb) (by cases hv : vl.ownBlock <;> simp), h.sq, h.ent⟩
theorem below_drew' {B : Nat} {w w' : World} (h : Below B w w') : Below B w w'.drew := ⟨h.os, h.tape, h.output, h.size, h.block⟩
theorem below_undrew {w w' : World} (h : Below w.drew.heap.size w.drew w') : Below w.heap.size w w' := ⟨h.os, h.tape, h.output, h.size, h.block⟩
theorem BookAt.cell0 {w : World} {B Bk G : Nat} {vs : List Value} {vl : Value} {rows : List (List Int)} {lines : List ByteArray} (h : BookAt w B Bk G vs vl rows lines) : w.cell? ⟨Bk, 0, none⟩ = some (.slice (some ⟨G, 0, none⟩) 4 4) := by
  simp [World.cell?, h.box]
theorem BookAt.cell1 {w : World} {B Bk G : Nat} {vs : List Value} {vl : Value} {rows : List (List Int)} {lines : List ByteArray} (h : BookAt w B Bk G vs vl rows lines) : w.cell? ⟨Bk, 1, none⟩ = some vl := by
  simp [World.cell?, h.box]
theorem BookAt.free {w : World} {B Bk G : Nat} {vs : List Value} {vl : Value} {rows : List (List Int)} {lines : List ByteArray} (h : BookAt w B Bk G vs vl rows lines) (j : Nat) : w.frozen? ⟨Bk, j, none⟩ = false := by
  simp [World.frozen?, h.box]
theorem BookAt.read {w : World} {B Bk G : Nat} {vs : List Value} {vl : Value} {rows : List (List Int)} {lines : List ByteArray} (h : BookAt w B Bk G vs vl rows lines) : RowsAt w (some ⟨G, 0, none⟩) 4 rows := by
  have := h.own.read
  rw [h.sq.1] at this
  exact this
theorem BookAt.logShape {w : World} {B Bk G : Nat} {vs : List Value} {vl : Value} {rows : List (List Int)} {lines : List ByteArray} (h : BookAt w B Bk G vs vl rows lines) :
    ∃ a cap, vl = .slice a lines.length cap ∧ lines.length ≤ cap ∧ cap ≤ maxLen ∧ (a = none → cap = 0) ∧ ∀ i, i < lines.length → ∃ g, a = some ⟨g, 0, none⟩ ∧ w.cell? ⟨g, i, none⟩ = some (.string (lines.getD i ⟨#[]⟩)) := by
  have hl := h.log
  rcases hl.2 with ⟨rfl, hn⟩ | ⟨g, cap, cur, rfl, hg, hb, h1, h2, h3, h4⟩
  · exact ⟨none, 0, by rw [hn], by omega, by simp [maxLen], fun _ => rfl, fun i hi => by omega⟩
  · refine ⟨_, cap, rfl, h1, h2, (fun h => by cases h), fun i hi => ⟨g, rfl, ?_⟩⟩
    have hh : w.ownsRow B 9 1 (.slice (Option.some ⟨g, 0, none⟩) lines.length cap) lines.length (lines.map Value.string) := hl
    rw [hh.cellAt i (by omega)]
    simp [hi, List.getD]

theorem own_slice {w : World} {B : Nat} {e : TypeId} {v : Value} {n : Nat} {xs : List Value} (h : w.ownsRow B e 1 v n xs) : ∃ a l c, v = .slice a l c := by
  rcases h.2 with ⟨rfl, hn⟩ | ⟨g, cap, cur, rfl, hg, hb, h1⟩ <;> exact ⟨_, _, _, rfl⟩
/-- blocks of one tag are not blocks of another one -/
theorem own_tag {w : World} {B k : Nat} {e e' : TypeId} {v : Value} {n : Nat} {xs : List Value} {cs : Array Value} {f : Nat × Nat} (h : w.ownsRow B e 1 v n xs) (hk : w.heap[k]? = some (.cells cs e' f)) (hne : e ≠ e') : v.ownBlock ≠ some k := by
  rcases h.2 with ⟨rfl, hn⟩ | ⟨g, cap, cur, rfl, hg, hb, h1⟩
  · simp [Value.ownBlock]
  · simp only [Value.ownBlock, ne_eq, Option.some.injEq]
    rintro rfl
    rw [hb] at hk
    simp only [Option.some.injEq, Obj.cells.injEq] at hk
    exact hne hk.2.1
theorem own_ne2 {w : World} {B B' : Nat} {e e' : TypeId} {v v' : Value} {n n' : Nat} {xs xs' : List Value} (h : w.ownsRow B e 1 v n xs) (k : w.ownsRow B' e' 1 v' n' xs') (hne : e ≠ e') : v.ownBlock = none ∨ v.ownBlock ≠ v'.ownBlock := by
  rcases h.2 with ⟨rfl, hn⟩ | ⟨g, cap, cur, rfl, hg, hb, h1⟩
  · exact Or.inl rfl
  · refine Or.inr fun he => ?_
    exact own_tag k hb (fun h => hne h.symm) he.symm

/-- a store into the matrix -/
theorem BookAt.at {w : World} {B Bk G : Nat} {vs : List Value} {vl : Value} {rows : List (List Int)} {lines : List ByteArray} (h : BookAt w B Bk G vs vl rows lines) {i j : Nat} (hi : i < 4) (hj : j < 4) :
    ∃ g rc, vs.getD i undef = .slice (some ⟨g, 0, none⟩) 4 rc ∧ g < w.heap.size ∧ B ≤ g ∧ w.cell? ⟨G, i, none⟩ = some (.slice (some ⟨g, 0, none⟩) 4 rc) ∧ w.frozen? ⟨g, j, none⟩ = false ∧ w.cell? ⟨g, j, none⟩ = some (.int .i64 (fn rows i j)) ∧
      ∀ x, 0 ≤ x → x < 9973 → BookAt (w.setCell ⟨g, j, none⟩ (.int .i64 x)) B Bk G vs vl (putE rows i j x) lines := by
  obtain ⟨g, rc, h1, h2, h3, h4, h5, h6, h7, h8⟩ := h.own.at h.sq hi hj
  have hlt := World.block_lt_of_cell? _ _ h7
  have hgrow := grown_setCell w g j
  have hrow := h.own.2.2.1 i (by rw [h.sq.1]; exact hi)
  have hne : (vs.getD i undef).ownBlock ≠ some Bk := own_tag hrow h.box (by decide)
  rw [h5] at hne
  have hgB : g ≠ Bk := fun e => hne (by rw [e]; rfl)
  refine ⟨g, rc, h5, hlt, by omega, h1, h6, h7, fun x hx1 hx2 => ⟨h.base, ?_, h8 x, ?_, put_sq h.sq _ _ _, fun a b ha hb => ?_⟩⟩
  · rw [(hgrow (.int .i64 x)).block Bk h.lt (by simpa using fun e => hgB e.symm)]; exact h.box
  · refine World.ownsRow.kept h.log (hgrow (.int .i64 x)) ?_
    have := own_ne2 h.log hrow (by decide)
    rw [h5] at this
    exact this
  · rw [fn_put h.sq hi hj]
    split
    · exact ⟨hx1, hx2⟩
    · exact h.ent a b ha hb
theorem BookAt.store {w : World} {B Bk G : Nat} {vs : List Value} {vl : Value} {rows : List (List Int)} {lines : List ByteArray} (h : BookAt w B Bk G vs vl rows lines) {i j g rc : Nat} (hi : i < 4) (hj : j < 4) (hv : vs.getD i undef = .slice (some ⟨g, 0, none⟩) 4 rc) (x : Int) (h0 : 0 ≤ x) (h1 : x < 9973) :
    BookAt (w.setCell ⟨g, j, none⟩ (.int .i64 x)) B Bk G vs vl (putE rows i j x) lines := by
  obtain ⟨g', rc', e1, e2, e3, e4, e5, e6, e7⟩ := h.at hi hj
  rw [hv] at e1
  cases e1
  exact e7 x h0 h1
/-- the log's new value -/
theorem BookAt.logged {w w1 : World} {B Bk G : Nat} {vs : List Value} {vl vl' : Value} {rows : List (List Int)} {lines : List ByteArray} {s : ByteArray} (h : BookAt w B Bk G vs vl rows lines)
    (ho : w1.ownsRow B 9 1 vl' (lines.length + 1) (lines.map Value.string ++ [.string s])) (hg : w.grownBy w1 vl.ownBlock) : BookAt (w1.setCell ⟨Bk, 1, none⟩ vl') B Bk G vs vl' rows (lines ++ [s]) := by
  have hbox1 : w1.heap[Bk]? = some (.cells #[.slice (some ⟨G, 0, none⟩) 4 4, vl] 58 (0, 0)) := by
    rw [hg.block Bk h.lt (fun e => own_tag h.log h.box (by decide) e.symm)]; exact h.box
  have hlt1 : Bk < w1.heap.size := (Array.getElem?_eq_some_iff.1 hbox1).1
  have hst := grown_setCell w1 Bk 1 vl'
  have hV1 : OwnVals w1 B (.slice (some ⟨G, 0, none⟩) 4 4) vs := World.ownsRow.kept h.own.1 hg (own_ne2 h.own.1 h.log (by decide))
  have hR1 : ∀ i, i < rows.length → OwnInts w1 B (vs.getD i undef) (rows.getD i []) := fun i hi => World.ownsRow.kept (h.own.2.2.1 i hi) hg (own_ne2 (h.own.2.2.1 i hi) h.log (by decide))
  refine ⟨h.base, ?_, ⟨World.ownsRow.kept hV1 hst (Or.inr (own_tag hV1 hbox1 (by decide))), h.own.2.1, fun i hi => World.ownsRow.kept (hR1 i hi) hst (Or.inr (own_tag (hR1 i hi) hbox1 (by decide))), h.own.2.2.2⟩, ?_, h.sq, h.ent⟩
  · show (w1.heap.modify Bk _)[Bk]? = _
    rw [Array.getElem?_modify, if_pos rfl, hbox1]
    rfl
  · have := World.ownsRow.kept ho hst (Or.inr (own_tag ho hbox1 (by decide)))
    unfold OwnStrs
    rw [List.map_append, List.length_append]
    exact this
theorem BKept.below {w w' : World} {B Bk G : Nat} {vs : List Value} {vl : Value} {rows : List (List Int)} {lines : List ByteArray} (k : BKept w w' Bk vs vl) (h : BookAt w B Bk G vs vl rows lines) : Below B w w' := by
  refine ⟨k.os, k.tape, k.output, k.size, fun b hb => ?_⟩
  have h1 := h.base
  have h2 := h.lt
  refine k.block b (by omega) (by omega) (fun e => ?_) (fun i hi e => ?_)
  · have := (World.ownsRow.lt h.log b e).1; omega
  · have := (World.ownsRow.lt (h.own.2.2.1 i (by rw [h.sq.1]; exact hi)) b e).1; omega
theorem BKept.of {w w' : World} (Bk : Nat) (vs : List Value) (vl : Value) (h : Below w.heap.size w w') : BKept w w' Bk vs vl := ⟨h.os, h.tape, h.output, h.size, fun k hk _ _ _ => h.block k hk⟩
theorem BKept.trans {w w1 w2 : World} {Bk : Nat} {vs : List Value} {vl vl1 : Value} (h : BKept w w1 Bk vs vl) (k : BKept w1 w2 Bk vs vl1) (hl : ∀ b, vl1.ownBlock = some b → vl.ownBlock = some b ∨ w.heap.size ≤ b) : BKept w w2 Bk vs vl := by
  refine ⟨k.os.trans h.os, k.tape.trans h.tape, k.output.trans h.output, Nat.le_trans h.size k.size, fun b hb h1 h2 h3 => ?_⟩
  have h4 := h.size
  rw [k.block b (by omega) h1 (fun e => by rcases hl b e with e2 | e2; exact h2 e2; omega) h3]
  exact h.block b hb h1 h2 h3
/-- a row of the matrix is written -/
theorem BKept.store {w : World} {Bk : Nat} {vs : List Value} {vl : Value} {i g rc : Nat} (hi : i < 4) (hv : vs.getD i undef = .slice (some ⟨g, 0, none⟩) 4 rc) (j : Nat) (u : Value) : BKept w (w.setCell ⟨g, j, none⟩ u) Bk vs vl := by
  have hg := grown_setCell w g j u
  refine ⟨hg.os, hg.tape, hg.output, hg.size, fun k hk _ _ h3 => hg.block k hk fun e => ?_⟩
  have := h3 i hi
  rw [hv] at this
  exact this (by rw [Option.some.inj e]; rfl)
theorem BKept.logged {w w1 : World} {Bk : Nat} {vs : List Value} {vl vl' : Value} (hg : w.grownBy w1 vl.ownBlock) : BKept w (w1.setCell ⟨Bk, 1, none⟩ vl') Bk vs vl := by
  have hs := grown_setCell w1 Bk 1 vl'
  have := hg.size
  refine ⟨hs.os.trans hg.os, hs.tape.trans hg.tape, hs.output.trans hg.output, Nat.le_trans hg.size hs.size, fun k hk h1 h2 h3 => ?_⟩
  rw [hs.block k (by omega) (fun e => h1 (Option.some.inj e)), hg.block k hk (fun e => h2 e.symm)]
theorem grown_alloc {w w' : World} {o : Obj} {r : Option Nat} (h : (w.alloc o).grownBy w' r) : w.grownBy w' r := by
  have hs := h.size
  have h1 : w.heap.size ≤ (w.alloc o).heap.size := le_alloc (Nat.le_refl _) o
  refine ⟨h.os, h.tape, h.output, by omega, fun k hk hn => ?_⟩
  have h2 : k < (w.alloc o).heap.size := by simp; omega
  rw [h.block k h2 hn]
  exact heap_alloc_old w o hk
theorem BookAt.boxKept {w w1 : World} {B Bk G : Nat} {vs : List Value} {vl : Value} {rows : List (List Int)} {lines : List ByteArray} (h : BookAt w B Bk G vs vl rows lines) (hg : w.grownBy w1 vl.ownBlock) : w1.cell? ⟨Bk, 1, none⟩ = some vl ∧ w1.frozen? ⟨Bk, 1, none⟩ = false := by
  have hbox1 : w1.heap[Bk]? = some (.cells #[.slice (some ⟨G, 0, none⟩) 4 4, vl] 58 (0, 0)) := by
    rw [hg.block Bk h.lt (fun e => own_tag h.log h.box (by decide) e.symm)]; exact h.box
  exact ⟨by simp [World.cell?, hbox1], by simp [World.frozen?, hbox1]⟩
/-- a new book -/
theorem BookAt.new {w w1 : World} {G : Nat} {vs : List Value} (ho : OwnRowsV w1 w.heap.size (.slice (some ⟨G, 0, none⟩) 4 4) vs (List.replicate 4 (List.replicate 4 0))) (hb : Below w.heap.size w w1) :
    BookAt (w1.alloc (.cells #[.slice (some ⟨G, 0, none⟩) 4 4, .slice none 0 0] 58)) w.heap.size w1.heap.size G vs (.slice none 0 0) (List.replicate 4 (List.replicate 4 0)) [] := by
  refine ⟨hb.size, heap_alloc_new _ _, ho.call ((Below.refl _ _).alloc (Nat.le_refl _) _), World.ownsRow_nil _ _ _ _, ⟨rfl, fun k hk => ?_⟩, fun i j hi hj => ?_⟩
  · have : k = 0 ∨ k = 1 ∨ k = 2 ∨ k = 3 := by omega
    rcases this with rfl | rfl | rfl | rfl <;> rfl
  · have h1 : i = 0 ∨ i = 1 ∨ i = 2 ∨ i = 3 := by omega
    have h2 : j = 0 ∨ j = 1 ∨ j = 2 ∨ j = 3 := by omega
    rcases h1 with rfl | rfl | rfl | rfl <;> rcases h2 with rfl | rfl | rfl | rfl <;> decide
end Go.Proofs.YtkpoemfdepjkaaaGreatDoor
