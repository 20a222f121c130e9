/- The texts that the walks stand on: Mem, DetMath, ErrMath, Bnd, SqOf, Flip, BookSum, Own2, Snoc, Mod. -/
import Derived.Test.YtghgekimeglogaaDoorRows
import Derived.WalkKit
import Derived.Lib.Hide
import Derived.Outline
import Derived.OneCell
import Derived.Deep.Heap
import Derived.Deep.Quiet
import Derived.Deep.Matrix
import Derived.Laws.AppendOwnNone
import Derived.Deep.LoopGhost
import Derived.ArgAppend
import Derived.OwnWalk
/- What the walks know of memory: lists of integers and of rows, read or owned; classes of worlds. No function of the program. -/
namespace Go.Proofs.YtghgekimeglogaaDoor
open Go.RowKit
set_option linter.unusedVariables false
set_option linter.unusedSimpArgs false

theorem info_int : (Tryd.prog.info? 3).map (fun i => (i.zero, i.size, i.bytes)) = some (some (.int .i64 0), 1, 8) := by kernel_rfl
theorem info_ints : (Tryd.prog.info? 28).map (fun i => (i.zero, i.size, i.bytes)) = some (some (.slice none 0 0), 1, 24) := by kernel_rfl

theorem ret_int {k : IntKind} {a b : Int} (h : a = b) : Ending.returned (.int k a) = .returned (.int k b) := by rw [h]
theorem ret_bool {a b : Bool} (h : a = b) : Ending.returned (.bool a) = .returned (.bool b) := by rw [h]

/-- what a Below of a fixed base gives the walk: two rewrite rules -/
theorem rules {N : Nat} {W w1 : World} (hb : Below N W w1) : (∀ b o, b < N → w1.cell? ⟨b, o, none⟩ = W.cell? ⟨b, o, none⟩) ∧ (∀ b o, b < N → w1.frozen? ⟨b, o, none⟩ = W.frozen? ⟨b, o, none⟩) :=
  ⟨fun b o h => hb.cell (p := ⟨b, o, none⟩) h, fun b o h => hb.frozen (p := ⟨b, o, none⟩) h⟩

/-- one call more over a fixed base -/
theorem step_below {N : Nat} {E w1 w2 : World} (hB : Below N E w1) (hN : N ≤ E.heap.size) (hb : Below w1.heap.size w1 w2) : Below N E w2 :=
  hB.trans (hb.mono (by have := hB.size; omega))
theorem below_trans {w w1 w2 : World} (hB : Below w.heap.size w w1) (hb : Below w1.heap.size w1 w2) : Below w.heap.size w w2 := step_below hB (Nat.le_refl _) hb

/-- the class of worlds in which all blocks below N are as in W -/
def Cls (N : Nat) (W w' : World) : Prop := Below N W w'
theorem Cls.start {N : Nat} {W : World} : Cls N W { W with drawn := W.drawn + 1 } := ⟨rfl, rfl, rfl, Nat.le_refl _, fun _ _ => rfl⟩
theorem Cls.call {P : Program} {f : FuncId} {args : Array Value} {w : World} {v : Value} {N : Nat} {W : World} (hC : Cls N W w) (hN : N ≤ W.heap.size)
    (h : Calls P f args w fun e w' => e = .returned v ∧ Below w.heap.size w w') : Calls P f args w fun e w'' => e = .returned v ∧ Cls N W w'' :=
  h.mono fun _ _ ⟨he, hb⟩ => ⟨he, step_below hC hN hb⟩
theorem Cls.callSame {P : Program} {f : FuncId} {args : Array Value} {w : World} {v : Value} {N : Nat} {W : World} (hC : Cls N W w)
    (h : Calls P f args w fun e w' => e = .returned v ∧ w = w') : Calls P f args w fun e w'' => e = .returned v ∧ Cls N W w'' :=
  h.mono fun _ _ ⟨he, hb⟩ => ⟨he, hb ▸ hC⟩
theorem Cls.rules {N : Nat} {W w1 : World} (hb : Cls N W w1) : (∀ b o, b < N → w1.cell? ⟨b, o, none⟩ = W.cell? ⟨b, o, none⟩) ∧ (∀ b o, b < N → w1.frozen? ⟨b, o, none⟩ = W.frozen? ⟨b, o, none⟩) :=
  Go.Proofs.YtghgekimeglogaaDoor.rules (show Below N W w1 from hb)

/-- the n integers xs lie at address a -/
def IntsAt (w : World) (a : Option Addr) (n : Nat) (xs : List Int) : Prop :=
  xs.length = n ∧ ∀ i, i < n → ∃ b off, a = some ⟨b, off, none⟩ ∧ w.cell? ⟨b, off + i, none⟩ = some (.int .i64 (xs.getD i 0))

theorem IntsAt.below {N : Nat} {w w' : World} {a : Option Addr} {n : Nat} {xs : List Int} (h : IntsAt w a n xs) (hb : Below N w w') (hN : ∀ x, a = some x → x.block < N) : IntsAt w' a n xs := by
  refine ⟨h.1, fun i hi => ?_⟩
  obtain ⟨b, off, ha, hc⟩ := h.2 i hi
  exact ⟨b, off, ha, by rw [hb.cell (p := ⟨b, off + i, none⟩) (hN ⟨b, off, none⟩ ha)]; exact hc⟩
theorem IntsAt.call {w w' : World} {a : Option Addr} {n : Nat} {xs : List Int} (h : IntsAt w a n xs) (hb : Below w.heap.size w w') : IntsAt w' a n xs := by
  refine ⟨h.1, fun i hi => ?_⟩
  obtain ⟨b, off, ha, hc⟩ := h.2 i hi
  exact ⟨b, off, ha, by rw [hb.cell (p := ⟨b, off + i, none⟩) (World.block_lt_of_cell? _ _ hc)]; exact hc⟩
theorem IntsAt.nil (w : World) (a : Option Addr) : IntsAt w a 0 [] := ⟨rfl, fun i hi => absurd hi (Nat.not_lt_zero i)⟩
/-- where there is an element there is a block -/
theorem IntsAt.some {w : World} {a : Option Addr} {n : Nat} {xs : List Int} (h : IntsAt w a n xs) (hn : 0 < n) :
    ∃ b off, a = Option.some ⟨b, off, none⟩ ∧ b < w.heap.size ∧ ∀ i, i < n → w.cell? ⟨b, off + i, none⟩ = Option.some (.int .i64 (xs.getD i 0)) := by
  obtain ⟨b, off, ha, hc⟩ := h.2 0 hn
  refine ⟨b, off, ha, World.block_lt_of_cell? _ _ hc, fun i hi => ?_⟩
  obtain ⟨b', off', ha', hc'⟩ := h.2 i hi
  rw [ha] at ha'
  obtain ⟨rfl, rfl⟩ : b = b' ∧ off = off' := by simpa using ha'
  exact hc'

/-- the n rows lie at address a; each of them reads as its list -/
def RowsAt (w : World) (a : Option Addr) (n : Nat) (rows : List (List Int)) : Prop :=
  rows.length = n ∧ ∀ i, i < n → ∃ b off ra rc, a = some ⟨b, off, none⟩ ∧ w.cell? ⟨b, off + i, none⟩ = some (.slice ra (rows.getD i []).length rc) ∧
    (rows.getD i []).length ≤ rc ∧ rc ≤ maxLen ∧ (ra = none → rc = 0) ∧ IntsAt w ra (rows.getD i []).length (rows.getD i [])

theorem RowsAt.call {w w' : World} {a : Option Addr} {n : Nat} {rows : List (List Int)} (h : RowsAt w a n rows) (hb : Below w.heap.size w w') : RowsAt w' a n rows := by
  refine ⟨h.1, fun i hi => ?_⟩
  obtain ⟨b, off, ra, rc, ha, hc, h1, h2, h2', h3⟩ := h.2 i hi
  exact ⟨b, off, ra, rc, ha, by rw [hb.cell (p := ⟨b, off + i, none⟩) (World.block_lt_of_cell? _ _ hc)]; exact hc, h1, h2, h2', h3.call hb⟩
theorem RowsAt.nil (w : World) (a : Option Addr) : RowsAt w a 0 [] := ⟨rfl, fun i hi => absurd hi (Nat.not_lt_zero i)⟩
theorem RowsAt.some {w : World} {a : Option Addr} {n : Nat} {rows : List (List Int)} (h : RowsAt w a n rows) (hn : 0 < n) : ∃ b off, a = Option.some ⟨b, off, none⟩ ∧ b < w.heap.size := by
  obtain ⟨b, off, ra, rc, ha, hc, h1, h2, h2', h3⟩ := h.2 0 hn
  exact ⟨b, off, ha, World.block_lt_of_cell? _ _ hc⟩
theorem RowsAt.row {w : World} {b off : Nat} {n : Nat} {rows : List (List Int)} (h : RowsAt w (Option.some ⟨b, off, none⟩) n rows) {i : Nat} (hi : i < n) :
    ∃ ra rc, w.cell? ⟨b, off + i, none⟩ = Option.some (.slice ra (rows.getD i []).length rc) ∧ (rows.getD i []).length ≤ rc ∧ rc ≤ maxLen ∧ (ra = none → rc = 0) ∧ IntsAt w ra (rows.getD i []).length (rows.getD i []) := by
  obtain ⟨b', off', ra, rc, ha, hc, h1, h2, h2', h3⟩ := h.2 i hi
  obtain ⟨rfl, rfl⟩ : b = b' ∧ off = off' := by simpa using ha
  exact ⟨ra, rc, hc, h1, h2, h2', h3⟩

/-- v owns the integers xs, in a block from B on -/
def OwnInts (w : World) (B : Nat) (v : Value) (xs : List Int) : Prop := w.ownsRow B 3 1 v xs.length (xs.map (.int .i64))
/-- v owns the row of slices vs -/
def OwnVals (w : World) (B : Nat) (v : Value) (vs : List Value) : Prop := w.ownsRow B 28 1 v vs.length vs
/-- v owns the rows, and each row its integers; the rows' blocks are all unlike -/
def OwnRows (w : World) (B : Nat) (v : Value) (rows : List (List Int)) : Prop :=
  ∃ vs : List Value, OwnVals w B v vs ∧ vs.length = rows.length ∧ (∀ i, i < rows.length → OwnInts w B (vs.getD i undef) (rows.getD i [])) ∧
    ∀ i j, i < rows.length → j < rows.length → i ≠ j → (vs.getD i undef).ownBlock = none ∨ (vs.getD i undef).ownBlock ≠ (vs.getD j undef).ownBlock

theorem OwnInts.shape {w : World} {B : Nat} {v : Value} {xs : List Int} (h : OwnInts w B v xs) : ∃ a cap, v = .slice a xs.length cap ∧ xs.length ≤ cap ∧ cap ≤ maxLen ∧ (a = none → cap = 0) ∧ IntsAt w a xs.length xs := by
  rcases h.2 with ⟨rfl, hn⟩ | ⟨g, cap, cur, rfl, hg, hb, h1, h2, h3, h4⟩
  · exact ⟨none, 0, by rw [hn], by omega, by simp [maxLen], fun _ => rfl, by rw [List.length_eq_zero_iff] at hn; subst hn; exact IntsAt.nil _ _⟩
  · refine ⟨_, cap, rfl, h1, h2, (fun h => by cases h), rfl, fun i hi => ⟨g, 0, rfl, ?_⟩⟩
    have hh : w.ownsRow B 3 1 (.slice (Option.some ⟨g, 0, none⟩) xs.length cap) xs.length (xs.map (.int .i64)) := h
    have := hh.cellAt i (by omega)
    rw [Nat.zero_add, this]
    simp [hi, List.getD]

theorem OwnVals.cell {w : World} {B : Nat} {v : Value} {vs : List Value} (h : OwnVals w B v vs) : ∃ a cap, v = .slice a vs.length cap ∧ vs.length ≤ cap ∧ cap ≤ maxLen ∧ ∀ i, i < vs.length → ∃ g, a = Option.some ⟨g, 0, none⟩ ∧ w.cell? ⟨g, i, none⟩ = Option.some (vs.getD i undef) := by
  rcases h.2 with ⟨rfl, hn⟩ | ⟨g, cap, cur, rfl, hg, hb, h1, h2, h3, h4⟩
  · exact ⟨none, 0, by rw [hn], by omega, by simp [maxLen], fun i hi => by omega⟩
  · refine ⟨_, cap, rfl, h1, h2, fun i hi => ⟨g, rfl, ?_⟩⟩
    have hh : w.ownsRow B 28 1 (.slice (Option.some ⟨g, 0, none⟩) vs.length cap) vs.length vs := h
    rw [hh.cellAt i (by omega)]
    simp [hi, List.getD]

theorem OwnRows.rowsAt {w : World} {B : Nat} {v : Value} {rows : List (List Int)} (h : OwnRows w B v rows) : ∃ a cap, v = .slice a rows.length cap ∧ rows.length ≤ cap ∧ cap ≤ maxLen ∧ RowsAt w a rows.length rows := by
  obtain ⟨vs, h1, h2, h3, h4⟩ := h
  obtain ⟨a, cap, rfl, h5, h6, h7⟩ := h1.cell
  rw [h2] at *
  refine ⟨a, cap, rfl, h5, h6, rfl, fun i hi => ?_⟩
  obtain ⟨g, hg, hc⟩ := h7 i hi
  obtain ⟨ra, rc, e, e1, e2, e2', e3⟩ := (h3 i hi).shape
  exact ⟨g, 0, ra, rc, hg, by rw [Nat.zero_add, hc, e], e1, e2, e2', e3⟩

/-- a row of integers and a row of slices are two blocks -/
theorem own_ne {w : World} {B B' : Nat} {v v' : Value} {xs : List Int} {vs : List Value} (h : OwnInts w B v xs) (k : OwnVals w B' v' vs) : v.ownBlock = none ∨ v.ownBlock ≠ v'.ownBlock := by
  rcases h.2 with ⟨rfl, hn⟩ | ⟨g, cap, cur, rfl, hg, hb, h1, h2, h3, h4⟩
  · exact Or.inl rfl
  · rcases k.2 with ⟨rfl, kn⟩ | ⟨g', cap', cur', rfl, kg, kb, k1, k2, k3, k4⟩
    · exact Or.inr (by simp [Value.ownBlock])
    · refine Or.inr ?_
      simp only [Value.ownBlock, ne_eq, Option.some.injEq]
      rintro rfl
      rw [hb] at kb
      simp at kb

theorem OwnInts.kept {w w' : World} {B : Nat} {v : Value} {xs : List Int} {row : Option Nat} (h : OwnInts w B v xs) (hg : w.grownBy w' row) (hne : v.ownBlock = none ∨ v.ownBlock ≠ row) : OwnInts w' B v xs := World.ownsRow.kept h hg hne
theorem OwnVals.kept {w w' : World} {B : Nat} {v : Value} {vs : List Value} {row : Option Nat} (h : OwnVals w B v vs) (hg : w.grownBy w' row) (hne : v.ownBlock = none ∨ v.ownBlock ≠ row) : OwnVals w' B v vs := World.ownsRow.kept h hg hne
theorem below_grown {w w' : World} (hb : Below w.heap.size w w') : w.grownBy w' none := ⟨hb.os, hb.tape, hb.output, hb.size, fun k hk _ => hb.block k hk⟩
theorem OwnInts.call {w w' : World} {B : Nat} {v : Value} {xs : List Int} (h : OwnInts w B v xs) (hb : Below w.heap.size w w') : OwnInts w' B v xs := by
  refine h.kept (below_grown hb) ?_
  cases hv : v.ownBlock <;> simp
theorem OwnVals.call {w w' : World} {B : Nat} {v : Value} {vs : List Value} (h : OwnVals w B v vs) (hb : Below w.heap.size w w') : OwnVals w' B v vs := by
  refine h.kept (below_grown hb) ?_
  cases hv : v.ownBlock <;> simp
theorem OwnRows.call {w w' : World} {B : Nat} {v : Value} {rows : List (List Int)} (h : OwnRows w B v rows) (hb : Below w.heap.size w w') : OwnRows w' B v rows := by
  obtain ⟨vs, h1, h2, h3, h4⟩ := h
  exact ⟨vs, h1.call hb, h2, fun i hi => (h3 i hi).call hb, h4⟩

/-- append to what the call owns, whatever the source: nil, empty, a part -/
theorem wpList_append_own1 {P : Program} {w : World} {ops : Array Oper} {rest : List Oper} {o : Oper} {a : Act} {Q : Exit → Act → World → Prop} (hgd : o.guard = none) (s x : Operand) (t : TypeId)
    (ho : o.op = .call { callee := .builtin .append, args := #[s, x], argTypes := #[t, t] })
    (base : Nat) (e : TypeId) (i : TypeInfo) (z : Value) (bytes : Nat) (ht : P.underlying t = some (.slice e)) (hi : P.info? e = some i) (hz : i.zero = some z)
    (hsize : i.size = 1) (hby : i.bytes = bytes) (hzs : z.cells.size = 1)
    (v : Value) (n : Nat) (xs : List Value) (hs : a.eval s = v) (hown : w.ownsRow base e 1 v n xs)
    (ad : Option Addr) (m c : Nat) (news : List Value) (hx : a.eval x = .slice ad m c) (hl : news.length = m) (hc : ad = none → c = 0) (hnews : ∀ j u, news[j]? = some u → ∃ ad', ad = some ad' ∧ w.cell? (ad'.add j) = some u) (h1 : ∀ u ∈ news, u.oneCell' = true)
    (h63 : n + m ≤ maxLen) (hbytes : (n + m) * bytes ≤ 140737488355328) (hbase : base ≤ w.heap.size)
    (h : ∀ v' w', w'.ownsRow base e 1 v' (n + m) (xs ++ news) → w.grownBy w' v.ownBlock → wpList P ops Q rest (a.put o.dst v') w') : wpList P ops Q (o :: rest) a w := by
  cases ad with
  | some ad =>
    exact wpList_append_own w hgd s x t ho base e i z 1 bytes ht hi hz hsize hby hzs (by decide) v n xs hs hown ad m c news hx (by omega)
      (fun j u hj => by obtain ⟨ad', e1, e2⟩ := hnews j u hj; cases e1; exact e2) h1 h63 hbytes hbase (fun v' w' h2 h3 _ => h v' w' h2 h3)
  | none =>
    have hn : news = [] := by
      cases news with
      | nil => rfl
      | cons u r =>
        obtain ⟨ad', h1, h2⟩ := hnews 0 u rfl
        cases h1
    subst hn
    obtain rfl : m = 0 := by simpa using hl.symm
    obtain rfl : c = 0 := hc rfl
    exact wpList_append_own_none hgd s x t ho base e i 1 ht hi v n xs hs hown hx (h v w (by simpa using hown) (World.grownBy.refl _ _))

/-- rows whose slices are named -/
def OwnRowsV (w : World) (B : Nat) (v : Value) (vs : List Value) (rows : List (List Int)) : Prop :=
  OwnVals w B v vs ∧ vs.length = rows.length ∧ (∀ i, i < rows.length → OwnInts w B (vs.getD i undef) (rows.getD i [])) ∧
    ∀ i j, i < rows.length → j < rows.length → i ≠ j → (vs.getD i undef).ownBlock = none ∨ (vs.getD i undef).ownBlock ≠ (vs.getD j undef).ownBlock
theorem OwnRows.vals {w : World} {B : Nat} {v : Value} {rows : List (List Int)} (h : OwnRows w B v rows) : ∃ vs, OwnRowsV w B v vs rows := h
theorem OwnRowsV.rows {w : World} {B : Nat} {v : Value} {vs : List Value} {rows : List (List Int)} (h : OwnRowsV w B v vs rows) : OwnRows w B v rows := ⟨vs, h⟩
theorem OwnRows.nil (w : World) (B : Nat) : OwnRows w B (.slice none 0 0) [] := ⟨[], World.ownsRow_nil _ _ _ _, rfl, fun i hi => absurd hi (Nat.not_lt_zero i), fun i j hi => absurd hi (Nat.not_lt_zero i)⟩

theorem grown_below {w w' : World} {B : Nat} {row : Option Nat} (hg : w.grownBy w' row) (hB : B ≤ w.heap.size) (hr : ∀ k, row = some k → B ≤ k) : Below B w w' := (Below.refl B w).grown hg hB hr

/-- two appends that make a new row: all that was there is as it was -/
theorem fresh2 {w w1 w2 : World} {v1 : Value} {n : Nat} {xs : List Value} (h1 : w.grownBy w1 none) (ho : w1.ownsRow w.heap.size 3 1 v1 n xs) (h2 : w1.grownBy w2 v1.ownBlock) : Below w.heap.size w w2 :=
  (grown_below h1 (Nat.le_refl _) (fun k hk => by cases hk)).trans (grown_below h2 (h1.size) (fun k hk => (ho.lt k hk).1))
theorem fresh1 {w w1 : World} (h1 : w.grownBy w1 none) : Below w.heap.size w w1 := grown_below h1 (Nat.le_refl _) (fun k hk => by cases hk)

theorem ownBlock_lt {w : World} {B : Nat} {e : TypeId} {v : Value} {n : Nat} {xs : List Value} (h : w.ownsRow B e 1 v n xs) {k : Nat} (hk : v.ownBlock = some k) : B ≤ k ∧ k < w.heap.size := h.lt k hk

/-- a new row appended to rows -/
theorem OwnRowsV.snoc {w w2 w3 : World} {B : Nat} {out v2 v3 : Value} {vs : List Value} {rows : List (List Int)} {xs : List Int} {o : Obj} (h : OwnRowsV w B out vs rows) (hB : B ≤ w.heap.size) (hb : Below w.heap.size w w2)
    (hv : OwnInts w2 w.heap.size v2 xs) (h3 : w3.ownsRow B 28 1 v3 (vs.length + 1) (vs ++ [v2])) (hg : (w2.alloc o).grownBy w3 out.ownBlock) : OwnRows w3 B v3 (rows ++ [xs]) := by
  obtain ⟨hV, hl, hrows, hdis⟩ := h
  have hba : Below w.heap.size w (w2.alloc o) := hb.alloc hb.size o
  have hVa : OwnVals (w2.alloc o) B out vs := hV.call hba
  have hva : OwnInts (w2.alloc o) w.heap.size v2 xs := World.ownsRow.alloc hv o
  have hva' : OwnInts (w2.alloc o) B v2 xs := by
    refine ⟨hva.1, ?_⟩
    rcases hva.2 with h | ⟨g, cap, cur, h1, h2, h3⟩
    · exact Or.inl h
    · exact Or.inr ⟨g, cap, cur, h1, by omega, h3⟩
  refine ⟨vs ++ [v2], ?_, by simp [hl], ?_, ?_⟩
  · have : (vs ++ [v2]).length = vs.length + 1 := by simp
    unfold OwnVals
    rw [this]
    exact h3
  · intro i hi
    simp only [List.length_append, List.length_cons, List.length_nil] at hi
    by_cases h : i < rows.length
    · have e1 : (vs ++ [v2]).getD i undef = vs.getD i undef := by simp [List.getD, List.getElem?_append_left (show i < vs.length by omega)]
      have e2 : (rows ++ [xs]).getD i [] = rows.getD i [] := by simp [List.getD, List.getElem?_append_left h]
      rw [e1, e2]
      have hk := (hrows i h).call hba
      exact hk.kept hg (own_ne hk hVa)
    · have hi' : i = rows.length := by omega
      have e1 : (vs ++ [v2]).getD i undef = v2 := by rw [hi', ← hl]; simp [List.getD]
      have e2 : (rows ++ [xs]).getD i [] = xs := by rw [hi']; simp [List.getD]
      rw [e1, e2]
      exact hva'.kept hg (own_ne hva' hVa)
  · intro i j hi hj hij
    simp only [List.length_append, List.length_cons, List.length_nil] at hi hj
    have old : ∀ i, i < rows.length → ∀ k, (vs.getD i undef).ownBlock = some k → k < w.heap.size := fun i h k hk => ((hrows i h).lt k hk).2
    have new : ∀ k, v2.ownBlock = some k → w.heap.size ≤ k := fun k hk => (hv.lt k hk).1
    have e1 : ∀ i, i < rows.length → (vs ++ [v2]).getD i undef = vs.getD i undef := fun i h => by simp [List.getD, List.getElem?_append_left (show i < vs.length by omega)]
    have e2 : ∀ i, ¬ i < rows.length → i < rows.length + 1 → (vs ++ [v2]).getD i undef = v2 := fun i h h' => by
      have : i = vs.length := by omega
      rw [this]; simp [List.getD]
    by_cases h : i < rows.length <;> by_cases h' : j < rows.length
    · rw [e1 i h, e1 j h']; exact hdis i j h h' hij
    · rw [e1 i h, e2 j h' (by omega)]
      cases hk : (vs.getD i undef).ownBlock with
      | none => exact Or.inl rfl
      | some k =>
        refine Or.inr fun he => ?_
        have := old i h k hk
        have := new k he.symm
        omega
    · rw [e2 i h (by omega), e1 j h']
      cases hk : v2.ownBlock with
      | none => exact Or.inl rfl
      | some k =>
        refine Or.inr fun he => ?_
        have := new k hk
        have := old j h' k he.symm
        omega
    · omega

theorem OwnInts.isSlice {w : World} {B : Nat} {v : Value} {n : Nat} {xs : List Value} (h : w.ownsRow B 3 1 v n xs) : ∃ a l c, v = .slice a l c := by
  rcases h.2 with ⟨rfl, hn⟩ | ⟨g, cap, cur, rfl, hg, hb, h1, h2, h3, h4⟩ <;> exact ⟨_, _, _, rfl⟩
theorem OwnVals.isSlice {w : World} {B : Nat} {v : Value} {n : Nat} {xs : List Value} (h : w.ownsRow B 28 1 v n xs) : ∃ a l c, v = .slice a l c := by
  rcases h.2 with ⟨rfl, hn⟩ | ⟨g, cap, cur, rfl, hg, hb, h1, h2, h3, h4⟩ <;> exact ⟨_, _, _, rfl⟩
/-- one new cell -/
theorem one_new (w : World) (v : Value) (T : TypeId) : ∀ j u, [v][j]? = some u → ∃ ad', some (⟨w.heap.size, 0, none⟩ : Addr) = some ad' ∧ (w.alloc (.cells #[v] T)).cell? (ad'.add j) = some u := by
  intro j u hj
  match j, hj with
  | 0, hj =>
    simp at hj
    subst hj
    exact ⟨_, rfl, by rw [Go.WideShapes.add_plain]; simp⟩
theorem one_slice (a : Option Addr) (l c : Nat) : ∀ u ∈ [Value.slice a l c], u.oneCell' = true := by
  intro u hu
  simp at hu
  subst hu
  rfl
theorem one_int (k : IntKind) (x : Int) : ∀ u ∈ [Value.int k x], u.oneCell' = true := by
  intro u hu
  simp at hu
  subst hu
  rfl
theorem le_alloc {B : Nat} {w : World} (h : B ≤ w.heap.size) (o : Obj) : B ≤ (w.alloc o).heap.size := by simp; omega

theorem getD_set_eq {α : Type} (l : List α) (k : Nat) (x d : α) (h : k < l.length) : (l.set k x).getD k d = x := by simp [List.getD, h]
theorem getD_set_ne {α : Type} (l : List α) (k i : Nat) (x d : α) (h : k ≠ i) : (l.set k x).getD i d = l.getD i d := by simp [List.getD, List.getElem?_set_ne h]

theorem ownInts_mono {w : World} {B B' : Nat} {v : Value} {xs : List Int} (h : OwnInts w B' v xs) (hB : B ≤ B') : OwnInts w B v xs := by
  refine ⟨h.1, ?_⟩
  rcases h.2 with h | ⟨g, cap, cur, h1, h2, h3⟩
  · exact Or.inl h
  · exact Or.inr ⟨g, cap, cur, h1, by omega, h3⟩

/-- a store into one block of the call's own -/
theorem below_store {B : Nat} {w : World} (g j : Nat) (u : Value) (hg : B ≤ g) : Below B w (w.setCell ⟨g, j, none⟩ u) := (Below.refl B w).setCell hg u

/-- a new row put at place k of the rows -/
theorem OwnRowsV.put {w w2 : World} {B G n cap : Nat} {v2 : Value} {vs : List Value} {rows : List (List Int)} {xs : List Int} (h : OwnRowsV w B (.slice (some ⟨G, 0, none⟩) n cap) vs rows) (hB : B ≤ w.heap.size) (hb : Below w.heap.size w w2)
    (hv : OwnInts w2 w.heap.size v2 xs) (k : Nat) (hk : k < rows.length) : OwnRowsV (w2.setCell ⟨G, k, none⟩ v2) B (.slice (some ⟨G, 0, none⟩) n cap) (vs.set k v2) (rows.set k xs) := by
  obtain ⟨hV, hl, hrows, hdis⟩ := h
  have hV2 := hV.call hb
  have hn : n = vs.length := by
    rcases hV.2 with ⟨h1, _⟩ | ⟨g, cap', cur, h1, _⟩
    · simp at h1
    · simp at h1; exact h1.2.1
  subst hn
  have st := World.ownsRow.stored (show w2.ownsRow B 28 1 (.slice (some ⟨G, 0, none⟩) vs.length cap) vs.length vs from hV2) k v2
  refine ⟨by have := st.1; unfold OwnVals; rw [List.length_set]; exact this, by simp [hl], ?_, ?_⟩
  · intro i hi
    rw [List.length_set] at hi
    by_cases hik : k = i
    · subst hik
      rw [getD_set_eq _ _ _ _ (by omega), getD_set_eq _ _ _ _ hk]
      exact (ownInts_mono hv hB).kept st.2 (own_ne hv hV2)
    · rw [getD_set_ne _ _ _ _ _ hik, getD_set_ne _ _ _ _ _ hik]
      have hi2 := (hrows i hi).call hb
      exact hi2.kept st.2 (own_ne hi2 hV2)
  · intro i j hi hj hij
    rw [List.length_set] at hi hj
    have old : ∀ i, i < rows.length → ∀ k, (vs.getD i undef).ownBlock = some k → k < w.heap.size := fun i h k hk => ((hrows i h).lt k hk).2
    have new : ∀ k, v2.ownBlock = some k → w.heap.size ≤ k := fun k hk => (hv.lt k hk).1
    by_cases h1 : k = i
    · subst h1
      rw [getD_set_eq _ _ _ _ (by omega), getD_set_ne _ _ _ _ _ hij]
      cases he : v2.ownBlock with
      | none => exact Or.inl rfl
      | some q =>
        refine Or.inr fun e => ?_
        have := new q he
        have := old j hj q e.symm
        omega
    · by_cases h2 : k = j
      · subst h2
        rw [getD_set_eq _ _ _ _ (by omega), getD_set_ne _ _ _ _ _ h1]
        cases he : (vs.getD i undef).ownBlock with
        | none => exact Or.inl rfl
        | some q =>
          refine Or.inr fun e => ?_
          have := new q e.symm
          have := old i hi q he
          omega
      · rw [getD_set_ne _ _ _ _ _ h1, getD_set_ne _ _ _ _ _ h2]
        exact hdis i j hi hj hij

/-- the block of the rows -/
theorem OwnRowsV.base {w : World} {B G n cap : Nat} {vs : List Value} {rows : List (List Int)} (h : OwnRowsV w B (.slice (some ⟨G, 0, none⟩) n cap) vs rows) : B ≤ G ∧ G < w.heap.size := h.1.lt G rfl
theorem OwnRowsV.free {w : World} {B G n cap : Nat} {vs : List Value} {rows : List (List Int)} (h : OwnRowsV w B (.slice (some ⟨G, 0, none⟩) n cap) vs rows) (j : Nat) : w.frozen? ⟨G, j, none⟩ = false := by
  rcases h.1.2 with ⟨h1, _⟩ | ⟨g, cap', cur, h1, hb, hg, _⟩
  · simp at h1
  · simp only [Value.slice.injEq, Option.some.injEq, Addr.mk.injEq, and_true] at h1
    obtain ⟨rfl, h1⟩ := h1
    simp [World.frozen?, hg]
theorem OwnRowsV.isCell {w : World} {B G n cap : Nat} {vs : List Value} {rows : List (List Int)} (h : OwnRowsV w B (.slice (some ⟨G, 0, none⟩) n cap) vs rows) {k : Nat} (hk : k < rows.length) : w.cell? ⟨G, k, none⟩ = some (vs.getD k undef) := by
  obtain ⟨a, c, he, _, _, hc⟩ := h.1.cell
  obtain ⟨g, hg, hcell⟩ := hc k (by rw [h.2.1]; exact hk)
  simp only [Value.slice.injEq] at he
  obtain ⟨ha, _, _⟩ := he
  rw [hg] at ha
  simp only [Option.some.injEq, Addr.mk.injEq, and_true] at ha
  obtain rfl := ha
  exact hcell

theorem ints_made {w : World} {B n : Nat} {v : Value} (h : w.ownsRow B 3 1 v n (madeCells (Value.int .i64 0).cells (n * 1)).toList) : OwnInts w B v (List.replicate n 0) := by
  have e : (madeCells (Value.int .i64 0).cells (n * 1)).toList = (List.replicate n (0 : Int)).map (Value.int .i64) := by
    rw [show (Value.int .i64 0).cells = #[Value.int .i64 0] from rfl, Nat.mul_one, toList_madeCells_one, List.map_replicate]
  unfold OwnInts
  rw [List.length_replicate, ← e]
  exact h
theorem vals_made {w : World} {B n : Nat} {v : Value} (h : w.ownsRow B 28 1 v n (madeCells (Value.slice none 0 0).cells (n * 1)).toList) : OwnRowsV w B v (List.replicate n (.slice none 0 0)) (List.replicate n []) := by
  have e : (madeCells (Value.slice none 0 0).cells (n * 1)).toList = List.replicate n (Value.slice none 0 0) := by
    rw [show (Value.slice none 0 0).cells = #[Value.slice none 0 0] from rfl, Nat.mul_one, toList_madeCells_one]
  refine ⟨?_, by simp, ?_, ?_⟩
  · unfold OwnVals
    rw [List.length_replicate, ← e]
    exact h
  · intro i hi
    rw [List.length_replicate] at hi
    have e1 : (List.replicate n (Value.slice none 0 0)).getD i undef = .slice none 0 0 := by simp [List.getD, hi]
    have e2 : (List.replicate n ([] : List Int)).getD i [] = [] := by simp [List.getD, hi]
    rw [e1, e2]
    exact World.ownsRow_nil _ _ _ _
  · intro i j hi hj hij
    rw [List.length_replicate] at hi
    have e1 : (List.replicate n (Value.slice none 0 0)).getD i undef = .slice none 0 0 := by simp [List.getD, hi]
    rw [e1]
    exact Or.inl rfl

/-- one element of one row -/
theorem RowsAt.elem {w : World} {b off : Nat} {n : Nat} {rows : List (List Int)} (h : RowsAt w (Option.some ⟨b, off, none⟩) n rows) {i : Nat} (hi : i < n) {j : Nat} (hj : j < (rows.getD i []).length) :
    ∃ b2 off2 rc, w.cell? ⟨b, off + i, none⟩ = Option.some (.slice (Option.some ⟨b2, off2, none⟩) (rows.getD i []).length rc) ∧ w.cell? ⟨b2, off2 + j, none⟩ = Option.some (.int .i64 ((rows.getD i []).getD j 0)) := by
  obtain ⟨ra, rc, hc, h1, h2, h3, h4⟩ := h.row hi
  obtain ⟨b2, off2, hra, hcell⟩ := h4.2 j hj
  exact ⟨b2, off2, rc, by rw [hc, hra], hcell⟩

theorem OwnInts.nil (w : World) (B : Nat) : OwnInts w B (.slice none 0 0) [] := World.ownsRow_nil _ _ _ _
theorem OwnInts.snoc {w : World} {B : Nat} {v : Value} {xs : List Int} {x : Int} {n : Nat} (hn : n = xs.length) (h : w.ownsRow B 3 1 v (n + 1) (xs.map (Value.int .i64) ++ [Value.int .i64 x])) : OwnInts w B v (xs ++ [x]) := by
  unfold OwnInts
  rw [List.map_append, List.length_append, ← hn]
  exact h
/-- one append to a row that is being made -/
theorem own_grow {w wi w2 : World} {v : Value} {xs : List Int} {o : Obj} (hb : Below w.heap.size w wi) (h : OwnInts wi w.heap.size v xs) (hg : (wi.alloc o).grownBy w2 v.ownBlock) : Below w.heap.size w w2 :=
  hb.trans (((Below.refl w.heap.size wi).alloc hb.size o).trans (grown_below hg (le_alloc hb.size o) (fun k hk => (h.lt k hk).1)))

/-- an error by its number -/
def errV (e : Int) : Value := if e = 0 then .nilIface else .iface 52 (.int .i64 e)
theorem errV_zero : errV 0 = .nilIface := rfl
theorem errV_pos {e : Int} (h : e ≠ 0) : errV e = .iface 52 (.int .i64 e) := by unfold errV; rw [if_neg h]
/-- the sizes that a row's reading gives -/
def Small (n : Nat) (rows : List (List Int)) : Prop := n ≤ 9223372036854775807 ∧ ∀ k, k < n → (rows.getD k []).length ≤ 9223372036854775807

/-- one element of owned rows: where it lies; what a store makes of them -/
theorem OwnRowsV.elem {w : World} {B : Nat} {v : Value} {vs : List Value} {rows : List (List Int)} (h : OwnRowsV w B v vs rows) {i : Nat} (hi : i < rows.length) (hp : 0 < (rows.getD i []).length) :
    ∃ g rc, vs.getD i undef = .slice (Option.some ⟨g, 0, none⟩) (rows.getD i []).length rc ∧ B ≤ g ∧ g < w.heap.size ∧ (∀ j, w.frozen? ⟨g, j, none⟩ = false) ∧
      (∀ j, j < (rows.getD i []).length → w.cell? ⟨g, j, none⟩ = Option.some (.int .i64 ((rows.getD i []).getD j 0))) ∧
      ∀ j x, OwnRowsV (w.setCell ⟨g, j, none⟩ (.int .i64 x)) B v vs (rows.set i ((rows.getD i []).set j x)) := by
  obtain ⟨hV, hl, hrows, hdis⟩ := h
  have hr := hrows i hi
  have hr' := hr
  rcases hr'.2 with ⟨e, hn⟩ | ⟨g, cap, cur, e, hg, hb, h1, h2, h3, h4⟩
  · omega
  · have hlt := (World.ownsRow.lt hr g (by rw [e]; rfl)).2
    have ho : w.ownsRow B 3 1 (.slice (Option.some ⟨g, 0, none⟩) (rows.getD i []).length cap) (rows.getD i []).length ((rows.getD i []).map (Value.int .i64)) := by rw [← e]; exact hr
    refine ⟨g, cap, e, hg, hlt, fun j => ho.frozenAt j, fun j hj => ?_, fun j x => ?_⟩
    · rw [ho.cellAt j (by omega)]
      generalize rows.getD i [] = row at hj ⊢
      simp [hj, List.getD]
    · have st := ho.stored j (.int .i64 x)
      refine ⟨?_, by rw [List.length_set]; exact hl, ?_, ?_⟩
      · refine hV.kept st.2 ?_
        have := own_ne hr hV
        rw [e] at this
        rcases this with h | h
        · simp [Value.ownBlock] at h
        · exact Or.inr (fun he => h he.symm)
      · intro k hk
        rw [List.length_set] at hk
        by_cases hik : i = k
        · subst hik
          rw [getD_set_eq _ _ _ _ hi, e]
          unfold OwnInts
          rw [List.length_set, List.map_set]
          exact st.1
        · rw [getD_set_ne _ _ _ _ _ hik]
          refine (hrows k hk).kept st.2 ?_
          have := hdis k i hk hi (fun h => hik h.symm)
          rw [e] at this
          exact this
      · intro p q hp hq hpq
        rw [List.length_set] at hp hq
        exact hdis p q hp hq hpq
/-- two rows' blocks are unlike -/
theorem OwnRowsV.ne {w : World} {B : Nat} {v : Value} {vs : List Value} {rows : List (List Int)} (h : OwnRowsV w B v vs rows) {i j g g' n n' c c' : Nat} (hi : i < rows.length) (hj : j < rows.length) (hij : i ≠ j)
    (e : vs.getD i undef = .slice (Option.some ⟨g, 0, none⟩) n c) (e' : vs.getD j undef = .slice (Option.some ⟨g', 0, none⟩) n' c') : g ≠ g' := by
  have := h.2.2.2 i j hi hj hij
  rw [e, e'] at this
  rcases this with h | h
  · simp [Value.ownBlock] at h
  · rintro rfl
    exact h rfl
/-- a row's block is not the block of the rows -/
theorem OwnRowsV.ne0 {w : World} {B G n0 cap : Nat} {vs : List Value} {rows : List (List Int)} (h : OwnRowsV w B (.slice (Option.some ⟨G, 0, none⟩) n0 cap) vs rows) {i g n c : Nat} (hi : i < rows.length)
    (e : vs.getD i undef = .slice (Option.some ⟨g, 0, none⟩) n c) : g ≠ G := by
  have := own_ne (h.2.2.1 i hi) h.1
  rw [e] at this
  rcases this with h | h
  · simp [Value.ownBlock] at h
  · rintro rfl
    exact h rfl

theorem OwnRowsV.call {w w' : World} {B : Nat} {v : Value} {vs : List Value} {rows : List (List Int)} (h : OwnRowsV w B v vs rows) (hb : Below w.heap.size w w') : OwnRowsV w' B v vs rows := by
  obtain ⟨h1, h2, h3, h4⟩ := h
  exact ⟨h1.call hb, h2, fun i hi => (h3 i hi).call hb, h4⟩

theorem OwnRowsV.mono {w : World} {B B' : Nat} {v : Value} {vs : List Value} {rows : List (List Int)} (h : OwnRowsV w B' v vs rows) (hB : B ≤ B') : OwnRowsV w B v vs rows := by
  obtain ⟨h1, h2, h3, h4⟩ := h
  refine ⟨?_, h2, fun i hi => ownInts_mono (h3 i hi) hB, h4⟩
  refine ⟨h1.1, ?_⟩
  rcases h1.2 with h | ⟨g, cap, cur, e1, e2, e3⟩
  · exact Or.inl h
  · exact Or.inr ⟨g, cap, cur, e1, by omega, e3⟩
theorem OwnRows.mono {w : World} {B B' : Nat} {v : Value} {rows : List (List Int)} (h : OwnRows w B' v rows) (hB : B ≤ B') : OwnRows w B v rows := by
  obtain ⟨vs, hv⟩ := h.vals
  exact (hv.mono hB).rows

theorem IntsAt_two (w : World) (B : Nat) (x y : Int) (h0 : w.cell? ⟨B, 0, none⟩ = some (.int .i64 x)) (h1 : w.cell? ⟨B, 1, none⟩ = some (.int .i64 y)) : IntsAt w (some ⟨B, 0, none⟩) 2 [x, y] := by
  refine ⟨rfl, fun i hi => ⟨B, 0, rfl, ?_⟩⟩
  match i, hi with
  | 0, _ => simpa using h0
  | 1, _ => simpa using h1
end Go.Proofs.YtghgekimeglogaaDoor

/- Plain law: determinants by the first row, sums, wraps. No program in sight. -/
namespace Go.Proofs.YtghgekimeglogaaDoor
open Go.RowKit
set_option linter.unusedVariables false
set_option linter.unusedSimpArgs false

theorem wrap_ex (x : Int) : ∃ q : Int, wrap64 x = x + 18446744073709551616 * q := ⟨-((x + 9223372036854775808) / 18446744073709551616), by unfold wrap64; omega⟩
theorem wrap_add (x q : Int) : wrap64 (x + 18446744073709551616 * q) = wrap64 x := by unfold wrap64; omega
theorem wrap_wrap (x : Int) : wrap64 (wrap64 x) = wrap64 x := by
  obtain ⟨q, h⟩ := wrap_ex x
  rw [h, wrap_add, h]
theorem wrap_add_l (x y : Int) : wrap64 (wrap64 x + y) = wrap64 (x + y) := by
  obtain ⟨q, h⟩ := wrap_ex x
  rw [h, show x + 18446744073709551616 * q + y = (x + y) + 18446744073709551616 * q from by omega, wrap_add]
theorem wrap_add_r (x y : Int) : wrap64 (x + wrap64 y) = wrap64 (x + y) := by rw [Int.add_comm, wrap_add_l, Int.add_comm]
theorem wrap_mul_l (x y : Int) : wrap64 (wrap64 x * y) = wrap64 (x * y) := by
  obtain ⟨q, h⟩ := wrap_ex x
  rw [h, show (x + 18446744073709551616 * q) * y = x * y + 18446744073709551616 * (q * y) from by grind, wrap_add]
theorem wrap_mul_r (x y : Int) : wrap64 (x * wrap64 y) = wrap64 (x * y) := by rw [Int.mul_comm, wrap_mul_l, Int.mul_comm]
theorem wrap_in {n : Int} (h1 : -9223372036854775808 ≤ n) (h2 : n ≤ 9223372036854775807) : wrap64 n = n := by unfold wrap64; omega

/-- f 0 + .. + f (k - 1) -/
def sumTo (f : Nat → Int) : Nat → Int
  | 0 => 0
  | k + 1 => sumTo f k + f k
theorem sumTo_congr {f g : Nat → Int} {n : Nat} (h : ∀ i, i < n → f i = g i) : sumTo f n = sumTo g n := by
  induction n with
  | zero => rfl
  | succ n ih => rw [sumTo, sumTo, ih (fun i hi => h i (by omega)), h n (by omega)]

/-- 1, -1, 1, .. -/
def sgn (k : Nat) : Int := if k % 2 = 0 then 1 else -1
theorem sgn_zero : sgn 0 = 1 := rfl
theorem sgn_succ (k : Nat) : sgn (k + 1) = -sgn k := by
  unfold sgn
  by_cases h : k % 2 = 0
  · rw [if_pos h, if_neg (by omega)]
  · rw [if_neg h, if_pos (by omega)]; rfl
theorem sgn_bd (k : Nat) : -1 ≤ sgn k ∧ sgn k ≤ 1 := by unfold sgn; split <;> omega

/-- a matrix without row i and column j -/
def cut (rows : List (List Int)) (i j : Nat) : List (List Int) := (rows.eraseIdx i).map (·.eraseIdx j)

/-- the determinant, of n rows, by the first row -/
def detN : Nat → List (List Int) → Int
  | 0, _ => 1
  | n + 1, m => sumTo (fun j => sgn j * (m.getD 0 []).getD j 0 * detN n (cut m 0 j)) (n + 1)

/-- n rows of n -/
def Sq (n : Nat) (m : List (List Int)) : Prop := m.length = n ∧ ∀ i, i < n → (m.getD i []).length = n

theorem getD_cut (m : List (List Int)) (i j k : Nat) : (cut m i j).getD k [] = (m.getD (if k < i then k else k + 1) []).eraseIdx j := by
  unfold cut
  rw [List.getD_eq_getElem?_getD, List.getElem?_map, List.getElem?_eraseIdx]
  split
  · cases h : m[k]? <;> simp [List.getD_eq_getElem?_getD, h]
  · cases h : m[k + 1]? <;> simp [List.getD_eq_getElem?_getD, h]

theorem Sq.cut {n : Nat} {m : List (List Int)} (h : Sq (n + 1) m) {i j : Nat} (hi : i < n + 1) (hj : j < n + 1) : Sq n (cut m i j) := by
  refine ⟨?_, fun k hk => ?_⟩
  · unfold Go.Proofs.YtghgekimeglogaaDoor.cut
    rw [List.length_map, List.length_eraseIdx_of_lt (by rw [h.1]; exact hi), h.1]
    rfl
  · rw [getD_cut]
    have h2 := h.2 (if k < i then k else k + 1) (by split <;> omega)
    rw [List.length_eraseIdx_of_lt (by rw [h2]; exact hj), h2]
    rfl

/-- one more term, as the machine adds it -/
theorem wrap_term (P s x d : Int) : wrap64 (wrap64 P + wrap64 (wrap64 (s * x) * wrap64 d)) = wrap64 (P + s * x * d) := by
  rw [wrap_add_l, wrap_add_r, ← wrap_add_r, wrap_mul_l, wrap_mul_r, wrap_add_r]
def cutTo (rows : List (List Int)) (i j k : Nat) : List (List Int) := ((rows.take k).eraseIdx i).map (·.eraseIdx j)

theorem cutTo_hit (rows : List (List Int)) (ci cj k : Nat) (hk : k < rows.length) (h : k = ci) : cutTo rows ci cj (k + 1) = cutTo rows ci cj k := by
  subst h
  have hl : (rows.take k).length = k := by simp; omega
  have e : (rows.take (k + 1)).eraseIdx k = (rows.take k).eraseIdx k := by
    rw [List.take_succ_eq_append_getElem hk, List.eraseIdx_append_of_length_le (by omega), hl, List.eraseIdx_of_length_le (l := rows.take k) (by omega)]
    simp
  unfold cutTo
  rw [e]
theorem cutTo_miss (rows : List (List Int)) (ci cj k : Nat) (hk : k < rows.length) (h : k ≠ ci) : cutTo rows ci cj (k + 1) = cutTo rows ci cj k ++ [(rows.getD k []).eraseIdx cj] := by
  have e : rows.getD k [] = rows[k] := by simp [List.getD, hk]
  have hl : (rows.take k).length = k := by simp; omega
  have e2 : (rows.take (k + 1)).eraseIdx ci = (rows.take k).eraseIdx ci ++ [rows[k]] := by
    rw [List.take_succ_eq_append_getElem hk]
    rcases Nat.lt_or_gt_of_ne h with h | h
    · rw [List.eraseIdx_of_length_le (l := rows.take k ++ [rows[k]]) (by simp; omega), List.eraseIdx_of_length_le (l := rows.take k) (by omega)]
    · rw [List.eraseIdx_append_of_lt_length (by omega)]
  unfold cutTo
  rw [e, e2, List.map_append]
  rfl

theorem eraseTo_hit (row : List Int) (j l : Nat) (hl : l < row.length) (h : l = j) : (row.take (l + 1)).eraseIdx j = (row.take l).eraseIdx j := by
  subst h
  have hl' : (row.take l).length = l := by simp; omega
  rw [List.take_succ_eq_append_getElem hl, List.eraseIdx_append_of_length_le (by omega), hl', List.eraseIdx_of_length_le (l := row.take l) (by omega)]
  simp
theorem eraseTo_miss (row : List Int) (j l : Nat) (hl : l < row.length) (h : l ≠ j) : (row.take (l + 1)).eraseIdx j = (row.take l).eraseIdx j ++ [row.getD l 0] := by
  have e : row.getD l 0 = row[l] := by simp [List.getD, hl]
  have hl' : (row.take l).length = l := by simp; omega
  rw [e, List.take_succ_eq_append_getElem hl]
  rcases Nat.lt_or_gt_of_ne h with h | h
  · rw [List.eraseIdx_of_length_le (l := row.take l ++ [row[l]]) (by simp; omega), List.eraseIdx_of_length_le (l := row.take l) (by omega)]
  · rw [List.eraseIdx_append_of_lt_length (by omega)]
end Go.Proofs.YtghgekimeglogaaDoor

/- Plain law: what is wrong with a matrix. No program in sight. -/
namespace Go.Proofs.YtghgekimeglogaaDoor
open Go.RowKit
set_option linter.unusedVariables false
set_option linter.unusedSimpArgs false

def outB (lo hi x : Int) : Bool := decide (x < lo) || decide (hi < x)
def anyOut (lo hi : Int) (xs : List Int) : Bool := xs.any (outB lo hi)

theorem anyOut_snoc (lo hi : Int) (xs : List Int) (k : Nat) (h : k < xs.length) (h0 : (xs.take k).any (outB lo hi) = false) (h1 : outB lo hi (xs.getD k 0) = false) :
    (xs.take (k + 1)).any (outB lo hi) = false := by
  rw [List.take_succ_eq_append_getElem h, List.any_append, h0]
  have : xs.getD k 0 = xs[k] := by simp [List.getD, h]
  rw [this] at h1
  simp [h1]

theorem anyOut_hit (lo hi : Int) (xs : List Int) (k : Nat) (h : k < xs.length) (h1 : outB lo hi (xs.getD k 0) = true) :
    anyOut lo hi xs = true := by
  have : xs.getD k 0 = xs[k] := by simp [List.getD, h]
  rw [this] at h1
  exact List.any_eq_true.2 ⟨xs[k], List.getElem_mem _, h1⟩

def inB (n lo hi : Int) : Bool := decide (lo ≤ n) && decide (n ≤ hi)
theorem inB_out (n lo hi : Int) : inB n lo hi = !outB lo hi n := by
  simp only [inB, outB]
  by_cases h1 : lo ≤ n <;> by_cases h2 : n ≤ hi <;> simp [h1, h2] <;> omega
theorem inB_true {n lo hi : Int} (h : inB n lo hi = true) : lo ≤ n ∧ n ≤ hi := by simpa [inB] using h

/-- what is wrong with rows that should be so wide -/
def rowsErr (L : Nat) (lo hi : Int) : List (List Int) → Int
  | [] => 0
  | r :: rs => if r.length ≠ L then 3 else if anyOut lo hi r = true then 1 else rowsErr L lo hi rs
def matErr (rows : List (List Int)) (most lo hi : Int) : Int :=
  if rows.length = 0 ∨ (rows.getD 0 []).length = 0 then 5 else if most < rows.length ∨ most < (rows.getD 0 []).length then 4 else rowsErr (rows.getD 0 []).length lo hi rows
def sqErr (rows : List (List Int)) (most lo hi : Int) : Int :=
  if matErr rows most lo hi ≠ 0 then matErr rows most lo hi else if rows.length ≠ (rows.getD 0 []).length then 3 else 0

theorem rowsErr_skip (L : Nat) (lo hi : Int) : ∀ (rows : List (List Int)) (k : Nat), k ≤ rows.length → (∀ i, i < k → (rows.getD i []).length = L ∧ anyOut lo hi (rows.getD i []) = false) → rowsErr L lo hi rows = rowsErr L lo hi (rows.drop k) := by
  intro rows
  induction rows with
  | nil => intro k hk _; simp at hk; subst hk; rfl
  | cons r rs ih =>
    intro k hk h
    cases k with
    | zero => rfl
    | succ k =>
      have h0 := h 0 (by omega)
      simp only [List.getD_cons_zero] at h0
      rw [rowsErr, if_neg (by simp [h0.1]), if_neg (by simp [h0.2]), List.drop_succ_cons]
      exact ih k (by simpa using hk) (fun i hi => by have := h (i + 1) (by omega); simpa using this)
theorem drop_cons (rows : List (List Int)) (k : Nat) (hk : k < rows.length) : rows.drop k = rows.getD k [] :: rows.drop (k + 1) := by
  rw [List.drop_eq_getElem_cons hk]
  simp [List.getD, hk]
theorem rowsErr_three {L : Nat} {lo hi : Int} {rows : List (List Int)} {k : Nat} (hk : k < rows.length) (h : ∀ i, i < k → (rows.getD i []).length = L ∧ anyOut lo hi (rows.getD i []) = false) (hb : (rows.getD k []).length ≠ L) : rowsErr L lo hi rows = 3 := by
  rw [rowsErr_skip L lo hi rows k (by omega) h, drop_cons rows k hk, rowsErr, if_pos hb]
theorem rowsErr_one {L : Nat} {lo hi : Int} {rows : List (List Int)} {k : Nat} (hk : k < rows.length) (h : ∀ i, i < k → (rows.getD i []).length = L ∧ anyOut lo hi (rows.getD i []) = false) (hb : (rows.getD k []).length = L) (hb2 : anyOut lo hi (rows.getD k []) = true) : rowsErr L lo hi rows = 1 := by
  rw [rowsErr_skip L lo hi rows k (by omega) h, drop_cons rows k hk, rowsErr, if_neg (fun h => h hb), if_pos hb2]
theorem rowsErr_zero {L : Nat} {lo hi : Int} {rows : List (List Int)} (h : ∀ i, i < rows.length → (rows.getD i []).length = L ∧ anyOut lo hi (rows.getD i []) = false) : rowsErr L lo hi rows = 0 := by
  rw [rowsErr_skip L lo hi rows rows.length (Nat.le_refl _) h, List.drop_length, rowsErr]

theorem rowsErr_good {L : Nat} {lo hi : Int} : ∀ {rows : List (List Int)}, rowsErr L lo hi rows = 0 → ∀ r ∈ rows, r.length = L ∧ anyOut lo hi r = false := by
  intro rows
  induction rows with
  | nil => intro _ r hr; cases hr
  | cons q rs ih =>
    intro h r hr
    rw [rowsErr] at h
    split at h
    · cases h
    · split at h
      · cases h
      · rename_i h1 h2
        rcases List.mem_cons.1 hr with rfl | hr
        · exact ⟨by simpa using h1, by simpa using h2⟩
        · exact ih h r hr

/-- what a matrix without fault is -/
theorem sqErr_good {rows : List (List Int)} {most lo hi : Int} (h : sqErr rows most lo hi = 0) : 0 < rows.length ∧ (rows.length : Int) ≤ most ∧ ∀ r ∈ rows, r.length = rows.length ∧ anyOut lo hi r = false := by
  unfold sqErr at h
  split at h
  · rename_i g; exact absurd h g
  · rename_i g
    split at h
    · cases h
    · rename_i g2
      have g : matErr rows most lo hi = 0 := by simpa using g
      have g2 : rows.length = (rows.getD 0 []).length := by simpa using g2
      unfold matErr at g
      split at g
      · cases g
      · split at g
        · cases g
        · rename_i g3 g4
          refine ⟨by omega, by omega, fun r hr => ?_⟩
          rw [g2]
          exact rowsErr_good g r hr

end Go.Proofs.YtghgekimeglogaaDoor

/- Plain law: how great a determinant or a permanent can be. No program in sight. -/
namespace Go.Proofs.YtghgekimeglogaaDoor
open Go.RowKit
set_option linter.unusedVariables false
set_option linter.unusedSimpArgs false

def permN : Nat → List (List Int) → Int
  | 0, _ => 1
  | n + 1, m => sumTo (fun j => (m.getD 0 []).getD j 0 * permN n (cut m 0 j)) (n + 1)

/-- all entries are within B -/
def Ent (B : Int) (m : List (List Int)) : Prop := ∀ i j, -B ≤ (m.getD i []).getD j 0 ∧ (m.getD i []).getD j 0 ≤ B

theorem getD_eraseIdx (l : List Int) (j k : Nat) : (l.eraseIdx j).getD k 0 = l.getD (if k < j then k else k + 1) 0 := by
  simp only [List.getD_eq_getElem?_getD, List.getElem?_eraseIdx]
  split <;> rfl
theorem Ent.cut {B : Int} {m : List (List Int)} (h : Ent B m) (i j : Nat) : Ent B (cut m i j) := by
  intro a b
  rw [getD_cut, getD_eraseIdx]
  exact h _ _

theorem bd_mul {a b B C : Int} (h1 : -B ≤ a) (h2 : a ≤ B) (h3 : -C ≤ b) (h4 : b ≤ C) : -(B * C) ≤ a * b ∧ a * b ≤ B * C := by
  have e1 : 0 ≤ (B - a) * (C + b) := Int.mul_nonneg (by omega) (by omega)
  have e2 : 0 ≤ (B + a) * (C - b) := Int.mul_nonneg (by omega) (by omega)
  have e3 : 0 ≤ (B - a) * (C - b) := Int.mul_nonneg (by omega) (by omega)
  have e4 : 0 ≤ (B + a) * (C + b) := Int.mul_nonneg (by omega) (by omega)
  simp only [Int.sub_mul, Int.add_mul, Int.mul_add, Int.mul_sub] at e1 e2 e3 e4
  generalize B * C = p at *
  generalize a * b = q at *
  generalize B * b = r at *
  generalize a * C = s at *
  omega
theorem sumTo_bd {f : Nat → Int} {B : Int} {n : Nat} (h : ∀ i, i < n → -B ≤ f i ∧ f i ≤ B) : -(n * B) ≤ sumTo f n ∧ sumTo f n ≤ n * B := by
  induction n with
  | zero => simp [sumTo]
  | succ n ih =>
    have h1 := ih (fun i hi => h i (by omega))
    have h2 := h n (by omega)
    rw [sumTo]
    have e : ((n + 1 : Nat) : Int) * B = n * B + B := by rw [Int.natCast_add]; grind
    rw [e]
    omega

/-- n! B^n -/
def bnd (B : Int) : Nat → Int
  | 0 => 1
  | n + 1 => (n + 1 : Nat) * (B * bnd B n)
theorem permN_bd {B : Int} (n : Nat) : ∀ {m : List (List Int)}, Ent B m → -(bnd B n) ≤ permN n m ∧ permN n m ≤ bnd B n := by
  induction n with
  | zero => intro m _; simp [permN, bnd]
  | succ n ih =>
    intro m h
    rw [permN, bnd]
    refine sumTo_bd fun j hj => ?_
    have h1 := h 0 j
    have h2 := ih (h.cut 0 j)
    exact bd_mul h1.1 h1.2 h2.1 h2.2
theorem detN_bd {B : Int} (n : Nat) : ∀ {m : List (List Int)}, Ent B m → -(bnd B n) ≤ detN n m ∧ detN n m ≤ bnd B n := by
  induction n with
  | zero => intro m _; simp [detN, bnd]
  | succ n ih =>
    intro m h
    rw [detN, bnd]
    refine sumTo_bd fun j hj => ?_
    have h1 := h 0 j
    have h2 := ih (h.cut 0 j)
    have h3 : -B ≤ sgn j * (m.getD 0 []).getD j 0 ∧ sgn j * (m.getD 0 []).getD j 0 ≤ B := by
      unfold sgn
      split <;> omega
    exact bd_mul h3.1 h3.2 h2.1 h2.2

theorem mem_getD {α : Type} (l : List α) (i : Nat) (d : α) : l.getD i d ∈ l ∨ l.getD i d = d := by
  by_cases h : i < l.length
  · left; simp [List.getD, h]
  · right; simp [List.getD, h]

/-- a matrix without fault: square, its entries in bounds -/
theorem good_sq {rows : List (List Int)} {most lo hi : Int} (h : sqErr rows most lo hi = 0) : Sq rows.length rows := by
  obtain ⟨h1, h2, h3⟩ := sqErr_good h
  refine ⟨rfl, fun i hi => ?_⟩
  have : rows.getD i [] ∈ rows := by simp [List.getD, hi]
  exact (h3 _ this).1
theorem good_ent {rows : List (List Int)} {most B : Int} (hB : 0 ≤ B) (h : sqErr rows most (-B) B = 0) : Ent B rows := by
  obtain ⟨h1, h2, h3⟩ := sqErr_good h
  intro i j
  rcases mem_getD rows i [] with h | h
  · have h4 := (h3 _ h).2
    rcases mem_getD (rows.getD i []) j 0 with g | g
    · have : outB (-B) B ((rows.getD i []).getD j 0) = false := by
        have := List.any_eq_false.1 h4 _ g
        simpa using this
      generalize (rows.getD i []).getD j 0 = x at *
      simp [outB] at this
      omega
    · rw [g]; omega
  · rw [h]
    simp
    omega
end Go.Proofs.YtghgekimeglogaaDoor

/- Plain law: which square matrices are right. No program in sight. -/
namespace Go.Proofs.YtghgekimeglogaaDoor
open Go.RowKit
set_option linter.unusedVariables false
set_option linter.unusedSimpArgs false

theorem sqErr_rows {rows : List (List Int)} {n : Nat} {most lo hi : Int} (h : Sq n rows) (h0 : 0 < n) (hm : (n : Int) ≤ most) : sqErr rows most lo hi = rowsErr n lo hi rows := by
  have h1 := h.2 0 h0
  have hm0 : matErr rows most lo hi = rowsErr n lo hi rows := by
    unfold matErr
    rw [h.1, h1, if_neg (by omega), if_neg (by omega)]
  unfold sqErr
  rw [hm0, h.1, h1]
  by_cases h2 : rowsErr n lo hi rows = 0
  · rw [if_neg (by omega), if_neg (by omega), h2]
  · rw [if_pos h2]
theorem rowsErr_or (L : Nat) (lo hi : Int) : ∀ (rows : List (List Int)), (∀ r ∈ rows, r.length = L) → rowsErr L lo hi rows = 0 ∨ rowsErr L lo hi rows = 1 := by
  intro rows
  induction rows with
  | nil => intro _; left; rfl
  | cons r rs ih =>
    intro h
    rw [rowsErr, if_neg (by simp [h r (by simp)])]
    by_cases h1 : anyOut lo hi r = true
    · rw [if_pos h1]; right; rfl
    · rw [if_neg h1]; exact ih (fun r hr => h r (by simp [hr]))
theorem Sq.mem {rows : List (List Int)} {n : Nat} (h : Sq n rows) : ∀ r ∈ rows, r.length = n := by
  intro r hr
  obtain ⟨i, hi, rfl⟩ := List.mem_iff_getElem.1 hr
  have := h.2 i (by rw [← h.1]; exact hi)
  simpa [List.getD, hi] using this
/-- a square matrix is right, or a number of it is not -/
theorem sqErr_or {rows : List (List Int)} {n : Nat} {most lo hi : Int} (h : Sq n rows) (h0 : 0 < n) (hm : (n : Int) ≤ most) : sqErr rows most lo hi = 0 ∨ sqErr rows most lo hi = 1 := by
  rw [sqErr_rows h h0 hm]
  exact rowsErr_or n lo hi rows h.mem
theorem sqErr_of {rows : List (List Int)} {n : Nat} {most B : Int} (h : Sq n rows) (h0 : 0 < n) (hm : (n : Int) ≤ most) (he : Ent B rows) : sqErr rows most (-B) B = 0 := by
  rw [sqErr_rows h h0 hm]
  refine rowsErr_zero fun i hi => ⟨h.2 i (by rw [← h.1]; exact hi), ?_⟩
  refine Bool.eq_false_iff.2 fun ha => ?_
  obtain ⟨x, hx, hb⟩ := List.any_eq_true.1 ha
  obtain ⟨j, hj, rfl⟩ := List.mem_iff_getElem.1 hx
  have := he i j
  rw [show (rows.getD i []).getD j 0 = (rows.getD i [])[j] by simp [List.getD] at hj ⊢; simp [hj]] at this
  generalize (rows.getD i [])[j] = y at *
  simp [outB] at hb
  omega
end Go.Proofs.YtghgekimeglogaaDoor

/- Contract of the reference's Flip. -/
namespace Go.Proofs.YtghgekimeglogaaDoor
open Go.RowKit
set_option linter.unusedVariables false
set_option linter.unusedSimpArgs false

/-- column j of the first k rows -/
def colTo (rows : List (List Int)) (j k : Nat) : List Int := (List.range k).map fun i => (rows.getD i []).getD j 0
/-- the first k columns -/
def flipTo (rows : List (List Int)) (n k : Nat) : List (List Int) := (List.range k).map fun j => colTo rows j n
theorem colTo_succ (rows : List (List Int)) (j k : Nat) : colTo rows j (k + 1) = colTo rows j k ++ [(rows.getD k []).getD j 0] := by simp [colTo, List.range_succ]
theorem flipTo_succ (rows : List (List Int)) (n k : Nat) : flipTo rows n (k + 1) = flipTo rows n k ++ [colTo rows k n] := by simp [flipTo, List.range_succ]
theorem colTo_len (rows : List (List Int)) (j k : Nat) : (colTo rows j k).length = k := by simp [colTo]
theorem flipTo_len (rows : List (List Int)) (n k : Nat) : (flipTo rows n k).length = k := by simp [flipTo]

end Go.Proofs.YtghgekimeglogaaDoor

namespace Go.Proofs.YtghgekimeglogaaDoor
open Go.RowKit
/-- the sum of a record, so many bytes told -/
def csum (l : List UInt8) : Nat → Int
  | 0 => 0
  | k + 1 => csum l k + (l.getD k 0).toNat * ((k : Int) + 1)
theorem csum_bd (l : List UInt8) : ∀ k : Nat, k ≤ 1000000 → 0 ≤ csum l k ∧ csum l k ≤ 256000000 * k
  | 0, _ => by simp [csum]
  | k + 1, h => by
    obtain ⟨h1, h2⟩ := csum_bd l k (by omega)
    have h3 : (l.getD k 0).toNat < 256 := (l.getD k 0).toNat_lt
    have h4 : ((l.getD k 0).toNat : Int) * ((k : Int) + 1) ≤ 255 * 1000000 := Int.mul_le_mul (by omega) (by omega) (by omega) (by omega)
    have h5 : 0 ≤ ((l.getD k 0).toNat : Int) * ((k : Int) + 1) := Int.mul_nonneg (by omega) (by omega)
    unfold csum
    omega
theorem csum_wrap {l : List UInt8} {n k : Nat} {s : ByteArray} (hs : n ≤ 1000000) (h : l = s.data.toList ∧ n = s.size) (hk : k < n) (h' : k < s.size := by omega) :
    csum l (k + 1) = wrap64 (csum l k + wrap64 (wrap64 ((s[k]'h').toNat : Int) * ((k : Int) + 1))) := by
  have e : s[k]'h' = l.getD k 0 := by
    rw [h.1]
    have h2 : k < s.data.size := h'
    simp only [List.getD_eq_getElem?_getD, Array.getElem?_toList, ByteArray.getElem_eq_getElem_data]
    rw [Array.getElem?_eq_getElem h2]
    rfl
  rw [e]
  have h3 : (l.getD k 0).toNat < 256 := (l.getD k 0).toNat_lt
  have h4 : ((l.getD k 0).toNat : Int) * ((k : Int) + 1) ≤ 255 * 1000000 := Int.mul_le_mul (by omega) (by omega) (by omega) (by omega)
  have h5 : 0 ≤ ((l.getD k 0).toNat : Int) * ((k : Int) + 1) := Int.mul_nonneg (by omega) (by omega)
  obtain ⟨h1, h2⟩ := csum_bd l k (by omega)
  rw [wrap_in (n := ((l.getD k 0).toNat : Int)) (by omega) (by omega), wrap_in (n := ((l.getD k 0).toNat : Int) * ((k : Int) + 1)) (by omega) (by omega), wrap_in (by omega) (by omega)]
  rfl
theorem csum_mod (l : List UInt8) {n : Nat} (hs : n ≤ 1000000) : (csum l n).tmod 9973 = csum l n % 9973 := Int.tmod_eq_emod_of_nonneg (csum_bd l n hs).1
theorem Checksum_any (s : ByteArray) (w : World) (hs : s.size ≤ 1000000) :
    Calls Tryd.prog 38 #[.string s] w fun e w' => e = .returned (.int .i64 (csum s.data.toList s.size % 9973)) ∧ w = w' := by
  obtain ⟨l, hl⟩ : ∃ l, l = s.data.toList := ⟨_, rfl⟩
  obtain ⟨n, hn⟩ : ∃ n, n = s.size := ⟨_, rfl⟩
  rw [← hl, ← hn]
  have HL := Lib.hid (show l = s.data.toList ∧ n = s.size from ⟨hl, hn⟩)
  rw [← hn] at hs
  clear hl
  go_enter Tryd.func38, Tryd.ntmps38
  go_wp2_with fail
  go_loopg [3, 7] (n + 1) (fun g t i wr => ∃ k : Nat, k ≤ n ∧ n - k < g ∧ t = .int .i64 (csum l k) ∧ i = .int .i64 k ∧ wr = w)
  case atStart => exact ⟨0, by omega, by omega, rfl, rfl, rfl⟩
  case round =>
    obtain ⟨k, hk, hg, rfl, rfl, rfl⟩ := hrel
    by_cases hlt : k < n
    · go_wp2_with fail
      go_roundg (n - k)
      case measure => omega
      case rel =>
        refine ⟨k + 1, by omega, by omega, ?_, by go_num, rfl⟩
        rw [csum_wrap hs HL.out hlt]
    · obtain rfl : n = k := by omega
      have hd := csum_mod l hs
      go_wp2_with fail
      go_ret
      refine ⟨?_, rfl⟩
      rw [← HL.out.2]
      show Ending.returned (Value.int .i64 ((csum l n).tmod 9973)) = _
      rw [hd]
end Go.Proofs.YtghgekimeglogaaDoor

open Go
namespace Go.Proofs.YtghgekimeglogaaDoor
/-- append, and WHICH block the answer lies in: the old one, or one that is new -/
theorem wpList_append_own2 {P : Program} {w : World} {ops : Array Oper} {rest : List Oper} {o : Oper} {a : Act} {Q : Exit → Act → World → Prop} (hgd : o.guard = none) (s x : Operand) (t : TypeId)
    (ho : o.op = .call { callee := .builtin .append, args := #[s, x], argTypes := #[t, t] })
    (base : Nat) (e : TypeId) (i : TypeInfo) (z : Value) (bytes : Nat) (ht : P.underlying t = some (.slice e)) (hi : P.info? e = some i) (hz : i.zero = some z)
    (hsize : i.size = 1) (hby : i.bytes = bytes) (hzs : z.cells.size = 1)
    (v : Value) (n : Nat) (xs : List Value) (hs : a.eval s = v) (hown : w.ownsRow base e 1 v n xs)
    (ad : Addr) (m c : Nat) (news : List Value) (hx : a.eval x = .slice (some ad) m c) (hl : news.length = m) (hnews : ∀ j u, news[j]? = some u → w.cell? (ad.add j) = some u) (h1 : ∀ u ∈ news, u.oneCell' = true)
    (h63 : n + m ≤ maxLen) (hbytes : (n + m) * bytes ≤ 140737488355328) (hbase : base ≤ w.heap.size)
    (h : ∀ v' w', w'.ownsRow base e 1 v' (n + m) (xs ++ news) → w.grownBy w' v.ownBlock → (∀ k, v'.ownBlock = some k → v.ownBlock = some k ∨ w.heap.size ≤ k) → wpList P ops Q rest (a.put o.dst v') w') : wpList P ops Q (o :: rest) a w := by
  have up : ∀ {w' : World} {v' : Value} {k : Nat} {ys : List Value}, w'.ownsRow w.heap.size e 1 v' k ys → w'.ownsRow base e 1 v' k ys := by
    intro w' v' k ys hh
    refine ⟨hh.1, ?_⟩
    rcases hh.2 with h | ⟨g, cap, cur, h1, h2, h3⟩
    · exact Or.inl h
    · exact Or.inr ⟨g, cap, cur, h1, by omega, h3⟩
  rcases hown.2 with ⟨rfl, rfl⟩ | ⟨g, cap, cur, rfl, hg, hb, hc1, hc2, hc3, hc4⟩
  · have hx0 : xs = [] := List.eq_nil_of_length_eq_zero (by simpa using hown.1)
    subst hx0
    refine wpList_append_own w hgd s x t ho w.heap.size e i z 1 bytes ht hi hz hsize hby hzs (by decide) _ 0 [] hs (World.ownsRow_nil _ _ _ _) ad m c news hx (by omega) hnews h1 h63 hbytes (Nat.le_refl _) (fun v' w' h2 h3 _ => h v' w' (up h2) h3 (fun k hk => Or.inr (h2.lt k hk).1))
  · by_cases hf : n + m ≤ cap
    · refine wpList_append_fits w hgd s x t ho base e i 1 ht hi hsize g n cap xs hs hown ad m c news hx (by omega) hnews h1 hf (fun w' h2 h3 => h _ w' h2 h3 (fun k hk => Or.inl hk))
    · refine wpList_append_grows w hgd s x t ho e i z 1 bytes ht hi hz hsize hby hzs (by decide) (some ⟨g, 0, none⟩) n cap xs hs (fun hh => by cases hh) hown.1 ?_ ad m c news hx (by omega) hnews h1 (by omega) h63 hbytes ?_
      · intro b hb' j u hj
        cases hb'
        exact hown.cells rfl j u hj
      · intro v' w' h2 h3
        refine h v' w' (up h2) ⟨h3.os, h3.tape, h3.output, h3.size, fun k hk _ => h3.block k hk (by simp)⟩ (fun k hk => Or.inr (h2.lt k hk).1)
end Go.Proofs.YtghgekimeglogaaDoor

/- Rows, one more taken; the cells of integers. -/
namespace Go.Proofs.YtghgekimeglogaaDoor
open Go.RowKit
set_option linter.unusedVariables false
set_option linter.unusedSimpArgs false

theorem take_snoc_rows (rows : List (List Int)) (k : Nat) (hk : k < rows.length) : rows.take (k + 1) = rows.take k ++ [rows.getD k []] := by
  rw [List.take_succ_eq_append_getElem hk]
  simp [List.getD, hk]

/-- the cells of a slice of integers, as append reads them -/
theorem cells_of_ints {w : World} {a : Option Addr} {n : Nat} {xs : List Int} (h : IntsAt w a n xs) : ∀ j u, (xs.map (Value.int .i64))[j]? = some u → ∃ ad', a = some ad' ∧ w.cell? (ad'.add j) = some u := by
  intro j u hj
  have hjl := (List.getElem?_eq_some_iff.1 hj).1
  rw [List.length_map, h.1] at hjl
  obtain ⟨b, off, ha, hc⟩ := h.2 j hjl
  refine ⟨_, ha, ?_⟩
  rw [Go.WideShapes.add_plain, hc, ← hj]
  have hlen : j < xs.length := by rw [h.1]; exact hjl
  simp [hlen, List.getD]

end Go.Proofs.YtghgekimeglogaaDoor

/- Contract of num.Mod. -/
namespace Go.Proofs.YtghgekimeglogaaDoor
open Go.RowKit
set_option linter.unusedVariables false
set_option linter.unusedSimpArgs false

theorem tmod_bd (n m : Int) (h : 1 ≤ m) : -m < n.tmod m ∧ n.tmod m < m := by
  have h1 := Int.tmod_lt_of_pos n (show 0 < m by omega)
  have h2 := Int.lt_tmod_of_pos n (show 0 < m by omega)
  exact ⟨h2, h1⟩

theorem tmod_emod (n m : Int) (h : 1 ≤ m) : (n.tmod m + m) % m = n % m := by
  rw [Int.add_emod_right, Int.tmod_def, Int.sub_emod, Int.mul_emod_right, Int.sub_zero, Int.emod_emod]

theorem Mod_any (n m : Int) (w : World) (h1 : -4000000000000000000 ≤ n) (h2 : n ≤ 4000000000000000000) (h3 : 1 ≤ m) (h4 : m ≤ 4000000000000000000):
    Calls Tryd.prog 39 #[.int .i64 n, .int .i64 m] w fun e w' => e = .returned (.int .i64 (n % m)) ∧ w = w' := by
  have hb := tmod_bd n m h3
  have HE := Lib.hid (tmod_emod n m h3)
  obtain ⟨hb1, hb2⟩ := hb
  go_enter Tryd.func39, Tryd.ntmps39
  go_wp2
  go_ret
  exact ⟨ret_int HE.out, rfl⟩

end Go.Proofs.YtghgekimeglogaaDoor

