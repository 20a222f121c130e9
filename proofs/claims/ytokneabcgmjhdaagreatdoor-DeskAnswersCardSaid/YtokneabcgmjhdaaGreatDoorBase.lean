/- The texts that the walks stand on: Mem, DetMath, ErrMath, Bnd, Alg, Put, SqOf, Flip, RowsLaw, HerMath, DetPMath, BookMem, BookSum, Own2, Grid, Any, First, Snoc, NCopy, Mod, DetPow, BareMem. -/
import Derived.Test.YtokneabcgmjhdaaGreatDoorRows
import Derived.WalkKit
import Derived.Lib.Hide
import Derived.Outline
import Derived.OneCell
import Derived.Deep.Heap
import Derived.Deep.Quiet
import Derived.Deep.Matrix
import Derived.Laws.AppendOwnNone
import Derived.Deep.LoopGhost
import Derived.Lib.LaidTab
import Derived.Lib.AppendIntMem
import Derived.ArgAppend
import Derived.OwnWalk
/- What the walks know of memory: lists of integers and of rows, read or owned; classes of worlds. No function of the program. -/
namespace Go.Proofs.YtokneabcgmjhdaaGreatDoor
open Go.RowKit
set_option linter.unusedVariables false
set_option linter.unusedSimpArgs false

theorem info_int : (Tryz.prog.info? 3).map (fun i => (i.zero, i.size, i.bytes)) = some (some (.int .i64 0), 1, 8) := by kernel_rfl
theorem info_ints : (Tryz.prog.info? 62).map (fun i => (i.zero, i.size, i.bytes)) = some (some (.slice none 0 0), 1, 24) := by kernel_rfl

theorem ret_int {k : IntKind} {a b : Int} (h : a = b) : Ending.returned (.int k a) = .returned (.int k b) := by rw [h]
theorem ret_bool {a b : Bool} (h : a = b) : Ending.returned (.bool a) = .returned (.bool b) := by rw [h]

/-- what a Below of a fixed base gives the walk: two rewrite rules -/
theorem rules {N : Nat} {W w1 : World} (hb : Below N W w1) : (∀ b o, b < N → w1.cell? ⟨b, o, none⟩ = W.cell? ⟨b, o, none⟩) ∧ (∀ b o, b < N → w1.frozen? ⟨b, o, none⟩ = W.frozen? ⟨b, o, none⟩) :=
  ⟨fun b o h => hb.cell (p := ⟨b, o, none⟩) h, fun b o h => hb.frozen (p := ⟨b, o, none⟩) h⟩

/-- one call more over a fixed base -/
theorem step_below {N : Nat} {E w1 w2 : World} (hB : Below N E w1) (hN : N ≤ E.heap.size) (hb : Below w1.heap.size w1 w2) : Below N E w2 :=
  hB.trans (hb.mono (by have := hB.size; omega))
theorem below_trans {w w1 w2 : World} (hB : Below w.heap.size w w1) (hb : Below w1.heap.size w1 w2) : Below w.heap.size w w2 := step_below hB (Nat.le_refl _) hb

/-- the class of worlds in which all blocks below N are as in W -/
def Cls (N : Nat) (W w' : World) : Prop := Below N W w'
theorem Cls.start {N : Nat} {W : World} : Cls N W { W with drawn := W.drawn + 1 } := ⟨rfl, rfl, rfl, Nat.le_refl _, fun _ _ => rfl⟩
theorem Cls.call {P : Program} {f : FuncId} {args : Array Value} {w : World} {v : Value} {N : Nat} {W : World} (hC : Cls N W w) (hN : N ≤ W.heap.size)
    (h : Calls P f args w fun e w' => e = .returned v ∧ Below w.heap.size w w') : Calls P f args w fun e w'' => e = .returned v ∧ Cls N W w'' :=
  h.mono fun _ _ ⟨he, hb⟩ => ⟨he, step_below hC hN hb⟩
theorem Cls.callSame {P : Program} {f : FuncId} {args : Array Value} {w : World} {v : Value} {N : Nat} {W : World} (hC : Cls N W w)
    (h : Calls P f args w fun e w' => e = .returned v ∧ w = w') : Calls P f args w fun e w'' => e = .returned v ∧ Cls N W w'' :=
  h.mono fun _ _ ⟨he, hb⟩ => ⟨he, hb ▸ hC⟩
theorem Cls.rules {N : Nat} {W w1 : World} (hb : Cls N W w1) : (∀ b o, b < N → w1.cell? ⟨b, o, none⟩ = W.cell? ⟨b, o, none⟩) ∧ (∀ b o, b < N → w1.frozen? ⟨b, o, none⟩ = W.frozen? ⟨b, o, none⟩) :=
  Go.Proofs.YtokneabcgmjhdaaGreatDoor.rules (show Below N W w1 from hb)

/-- the n integers xs lie at address a -/
def IntsAt (w : World) (a : Option Addr) (n : Nat) (xs : List Int) : Prop :=
  xs.length = n ∧ ∀ i, i < n → ∃ b off, a = some ⟨b, off, none⟩ ∧ w.cell? ⟨b, off + i, none⟩ = some (.int .i64 (xs.getD i 0))

theorem IntsAt.below {N : Nat} {w w' : World} {a : Option Addr} {n : Nat} {xs : List Int} (h : IntsAt w a n xs) (hb : Below N w w') (hN : ∀ x, a = some x → x.block < N) : IntsAt w' a n xs := by
  refine ⟨h.1, fun i hi => ?_⟩
  obtain ⟨b, off, ha, hc⟩ := h.2 i hi
  exact ⟨b, off, ha, by rw [hb.cell (p := ⟨b, off + i, none⟩) (hN ⟨b, off, none⟩ ha)]; exact hc⟩
theorem IntsAt.call {w w' : World} {a : Option Addr} {n : Nat} {xs : List Int} (h : IntsAt w a n xs) (hb : Below w.heap.size w w') : IntsAt w' a n xs := by
  refine ⟨h.1, fun i hi => ?_⟩
  obtain ⟨b, off, ha, hc⟩ := h.2 i hi
  exact ⟨b, off, ha, by rw [hb.cell (p := ⟨b, off + i, none⟩) (World.block_lt_of_cell? _ _ hc)]; exact hc⟩
theorem IntsAt.nil (w : World) (a : Option Addr) : IntsAt w a 0 [] := ⟨rfl, fun i hi => absurd hi (Nat.not_lt_zero i)⟩
/-- where there is an element there is a block -/
theorem IntsAt.some {w : World} {a : Option Addr} {n : Nat} {xs : List Int} (h : IntsAt w a n xs) (hn : 0 < n) :
    ∃ b off, a = Option.some ⟨b, off, none⟩ ∧ b < w.heap.size ∧ ∀ i, i < n → w.cell? ⟨b, off + i, none⟩ = Option.some (.int .i64 (xs.getD i 0)) := by
  obtain ⟨b, off, ha, hc⟩ := h.2 0 hn
  refine ⟨b, off, ha, World.block_lt_of_cell? _ _ hc, fun i hi => ?_⟩
  obtain ⟨b', off', ha', hc'⟩ := h.2 i hi
  rw [ha] at ha'
  obtain ⟨rfl, rfl⟩ : b = b' ∧ off = off' := by simpa using ha'
  exact hc'

/-- the n rows lie at address a; each of them reads as its list -/
def RowsAt (w : World) (a : Option Addr) (n : Nat) (rows : List (List Int)) : Prop :=
  rows.length = n ∧ ∀ i, i < n → ∃ b off ra rc, a = some ⟨b, off, none⟩ ∧ w.cell? ⟨b, off + i, none⟩ = some (.slice ra (rows.getD i []).length rc) ∧
    (rows.getD i []).length ≤ rc ∧ rc ≤ maxLen ∧ (ra = none → rc = 0) ∧ IntsAt w ra (rows.getD i []).length (rows.getD i [])

theorem RowsAt.call {w w' : World} {a : Option Addr} {n : Nat} {rows : List (List Int)} (h : RowsAt w a n rows) (hb : Below w.heap.size w w') : RowsAt w' a n rows := by
  refine ⟨h.1, fun i hi => ?_⟩
  obtain ⟨b, off, ra, rc, ha, hc, h1, h2, h2', h3⟩ := h.2 i hi
  exact ⟨b, off, ra, rc, ha, by rw [hb.cell (p := ⟨b, off + i, none⟩) (World.block_lt_of_cell? _ _ hc)]; exact hc, h1, h2, h2', h3.call hb⟩
theorem RowsAt.nil (w : World) (a : Option Addr) : RowsAt w a 0 [] := ⟨rfl, fun i hi => absurd hi (Nat.not_lt_zero i)⟩
theorem RowsAt.some {w : World} {a : Option Addr} {n : Nat} {rows : List (List Int)} (h : RowsAt w a n rows) (hn : 0 < n) : ∃ b off, a = Option.some ⟨b, off, none⟩ ∧ b < w.heap.size := by
  obtain ⟨b, off, ra, rc, ha, hc, h1, h2, h2', h3⟩ := h.2 0 hn
  exact ⟨b, off, ha, World.block_lt_of_cell? _ _ hc⟩
theorem RowsAt.row {w : World} {b off : Nat} {n : Nat} {rows : List (List Int)} (h : RowsAt w (Option.some ⟨b, off, none⟩) n rows) {i : Nat} (hi : i < n) :
    ∃ ra rc, w.cell? ⟨b, off + i, none⟩ = Option.some (.slice ra (rows.getD i []).length rc) ∧ (rows.getD i []).length ≤ rc ∧ rc ≤ maxLen ∧ (ra = none → rc = 0) ∧ IntsAt w ra (rows.getD i []).length (rows.getD i []) := by
  obtain ⟨b', off', ra, rc, ha, hc, h1, h2, h2', h3⟩ := h.2 i hi
  obtain ⟨rfl, rfl⟩ : b = b' ∧ off = off' := by simpa using ha
  exact ⟨ra, rc, hc, h1, h2, h2', h3⟩

/-- v owns the integers xs, in a block from B on -/
def OwnInts (w : World) (B : Nat) (v : Value) (xs : List Int) : Prop := w.ownsRow B 3 1 v xs.length (xs.map (.int .i64))
/-- v owns the row of slices vs -/
def OwnVals (w : World) (B : Nat) (v : Value) (vs : List Value) : Prop := w.ownsRow B 62 1 v vs.length vs
/-- v owns the rows, and each row its integers; the rows' blocks are all unlike -/
def OwnRows (w : World) (B : Nat) (v : Value) (rows : List (List Int)) : Prop :=
  ∃ vs : List Value, OwnVals w B v vs ∧ vs.length = rows.length ∧ (∀ i, i < rows.length → OwnInts w B (vs.getD i undef) (rows.getD i [])) ∧
    ∀ i j, i < rows.length → j < rows.length → i ≠ j → (vs.getD i undef).ownBlock = none ∨ (vs.getD i undef).ownBlock ≠ (vs.getD j undef).ownBlock

theorem OwnInts.shape {w : World} {B : Nat} {v : Value} {xs : List Int} (h : OwnInts w B v xs) : ∃ a cap, v = .slice a xs.length cap ∧ xs.length ≤ cap ∧ cap ≤ maxLen ∧ (a = none → cap = 0) ∧ IntsAt w a xs.length xs := by
  rcases h.2 with ⟨rfl, hn⟩ | ⟨g, cap, cur, rfl, hg, hb, h1, h2, h3, h4⟩
  · exact ⟨none, 0, by rw [hn], by omega, by simp [maxLen], fun _ => rfl, by rw [List.length_eq_zero_iff] at hn; subst hn; exact IntsAt.nil _ _⟩
  · refine ⟨_, cap, rfl, h1, h2, (fun h => by cases h), rfl, fun i hi => ⟨g, 0, rfl, ?_⟩⟩
    have hh : w.ownsRow B 3 1 (.slice (Option.some ⟨g, 0, none⟩) xs.length cap) xs.length (xs.map (.int .i64)) := h
    have := hh.cellAt i (by omega)
    rw [Nat.zero_add, this]
    simp [hi, List.getD]

theorem OwnVals.cell {w : World} {B : Nat} {v : Value} {vs : List Value} (h : OwnVals w B v vs) : ∃ a cap, v = .slice a vs.length cap ∧ vs.length ≤ cap ∧ cap ≤ maxLen ∧ ∀ i, i < vs.length → ∃ g, a = Option.some ⟨g, 0, none⟩ ∧ w.cell? ⟨g, i, none⟩ = Option.some (vs.getD i undef) := by
  rcases h.2 with ⟨rfl, hn⟩ | ⟨g, cap, cur, rfl, hg, hb, h1, h2, h3, h4⟩
  · exact ⟨none, 0, by rw [hn], by omega, by simp [maxLen], fun i hi => by omega⟩
  · refine ⟨_, cap, rfl, h1, h2, fun i hi => ⟨g, rfl, ?_⟩⟩
    have hh : w.ownsRow B 62 1 (.slice (Option.some ⟨g, 0, none⟩) vs.length cap) vs.length vs := h
    rw [hh.cellAt i (by omega)]
    simp [hi, List.getD]

theorem OwnRows.rowsAt {w : World} {B : Nat} {v : Value} {rows : List (List Int)} (h : OwnRows w B v rows) : ∃ a cap, v = .slice a rows.length cap ∧ rows.length ≤ cap ∧ cap ≤ maxLen ∧ RowsAt w a rows.length rows := by
  obtain ⟨vs, h1, h2, h3, h4⟩ := h
  obtain ⟨a, cap, rfl, h5, h6, h7⟩ := h1.cell
  rw [h2] at *
  refine ⟨a, cap, rfl, h5, h6, rfl, fun i hi => ?_⟩
  obtain ⟨g, hg, hc⟩ := h7 i hi
  obtain ⟨ra, rc, e, e1, e2, e2', e3⟩ := (h3 i hi).shape
  exact ⟨g, 0, ra, rc, hg, by rw [Nat.zero_add, hc, e], e1, e2, e2', e3⟩

/-- a row of integers and a row of slices are two blocks -/
theorem own_ne {w : World} {B B' : Nat} {v v' : Value} {xs : List Int} {vs : List Value} (h : OwnInts w B v xs) (k : OwnVals w B' v' vs) : v.ownBlock = none ∨ v.ownBlock ≠ v'.ownBlock := by
  rcases h.2 with ⟨rfl, hn⟩ | ⟨g, cap, cur, rfl, hg, hb, h1, h2, h3, h4⟩
  · exact Or.inl rfl
  · rcases k.2 with ⟨rfl, kn⟩ | ⟨g', cap', cur', rfl, kg, kb, k1, k2, k3, k4⟩
    · exact Or.inr (by simp [Value.ownBlock])
    · refine Or.inr ?_
      simp only [Value.ownBlock, ne_eq, Option.some.injEq]
      rintro rfl
      rw [hb] at kb
      simp at kb

theorem OwnInts.kept {w w' : World} {B : Nat} {v : Value} {xs : List Int} {row : Option Nat} (h : OwnInts w B v xs) (hg : w.grownBy w' row) (hne : v.ownBlock = none ∨ v.ownBlock ≠ row) : OwnInts w' B v xs := World.ownsRow.kept h hg hne
theorem OwnVals.kept {w w' : World} {B : Nat} {v : Value} {vs : List Value} {row : Option Nat} (h : OwnVals w B v vs) (hg : w.grownBy w' row) (hne : v.ownBlock = none ∨ v.ownBlock ≠ row) : OwnVals w' B v vs := World.ownsRow.kept h hg hne
theorem below_grown {w w' : World} (hb : Below w.heap.size w w') : w.grownBy w' none := ⟨hb.os, hb.tape, hb.output, hb.size, fun k hk _ => hb.block k hk⟩
theorem OwnInts.call {w w' : World} {B : Nat} {v : Value} {xs : List Int} (h : OwnInts w B v xs) (hb : Below w.heap.size w w') : OwnInts w' B v xs := by
  refine h.kept (below_grown hb) ?_
  cases hv : v.ownBlock <;> simp
theorem OwnVals.call {w w' : World} {B : Nat} {v : Value} {vs : List Value} (h : OwnVals w B v vs) (hb : Below w.heap.size w w') : OwnVals w' B v vs := by
  refine h.kept (below_grown hb) ?_
  cases hv : v.ownBlock <;> simp
theorem OwnRows.call {w w' : World} {B : Nat} {v : Value} {rows : List (List Int)} (h : OwnRows w B v rows) (hb : Below w.heap.size w w') : OwnRows w' B v rows := by
  obtain ⟨vs, h1, h2, h3, h4⟩ := h
  exact ⟨vs, h1.call hb, h2, fun i hi => (h3 i hi).call hb, h4⟩

/-- append to what the call owns, whatever the source: nil, empty, a part -/
theorem wpList_append_own1 {P : Program} {w : World} {ops : Array Oper} {rest : List Oper} {o : Oper} {a : Act} {Q : Exit → Act → World → Prop} (hgd : o.guard = none) (s x : Operand) (t : TypeId)
    (ho : o.op = .call { callee := .builtin .append, args := #[s, x], argTypes := #[t, t] })
    (base : Nat) (e : TypeId) (i : TypeInfo) (z : Value) (bytes : Nat) (ht : P.underlying t = some (.slice e)) (hi : P.info? e = some i) (hz : i.zero = some z)
    (hsize : i.size = 1) (hby : i.bytes = bytes) (hzs : z.cells.size = 1)
    (v : Value) (n : Nat) (xs : List Value) (hs : a.eval s = v) (hown : w.ownsRow base e 1 v n xs)
    (ad : Option Addr) (m c : Nat) (news : List Value) (hx : a.eval x = .slice ad m c) (hl : news.length = m) (hc : ad = none → c = 0) (hnews : ∀ j u, news[j]? = some u → ∃ ad', ad = some ad' ∧ w.cell? (ad'.add j) = some u) (h1 : ∀ u ∈ news, u.oneCell' = true)
    (h63 : n + m ≤ maxLen) (hbytes : (n + m) * bytes ≤ 140737488355328) (hbase : base ≤ w.heap.size)
    (h : ∀ v' w', w'.ownsRow base e 1 v' (n + m) (xs ++ news) → w.grownBy w' v.ownBlock → wpList P ops Q rest (a.put o.dst v') w') : wpList P ops Q (o :: rest) a w := by
  cases ad with
  | some ad =>
    exact wpList_append_own w hgd s x t ho base e i z 1 bytes ht hi hz hsize hby hzs (by decide) v n xs hs hown ad m c news hx (by omega)
      (fun j u hj => by obtain ⟨ad', e1, e2⟩ := hnews j u hj; cases e1; exact e2) h1 h63 hbytes hbase (fun v' w' h2 h3 _ => h v' w' h2 h3)
  | none =>
    have hn : news = [] := by
      cases news with
      | nil => rfl
      | cons u r =>
        obtain ⟨ad', h1, h2⟩ := hnews 0 u rfl
        cases h1
    subst hn
    obtain rfl : m = 0 := by simpa using hl.symm
    obtain rfl : c = 0 := hc rfl
    exact wpList_append_own_none hgd s x t ho base e i 1 ht hi v n xs hs hown hx (h v w (by simpa using hown) (World.grownBy.refl _ _))

/-- rows whose slices are named -/
def OwnRowsV (w : World) (B : Nat) (v : Value) (vs : List Value) (rows : List (List Int)) : Prop :=
  OwnVals w B v vs ∧ vs.length = rows.length ∧ (∀ i, i < rows.length → OwnInts w B (vs.getD i undef) (rows.getD i [])) ∧
    ∀ i j, i < rows.length → j < rows.length → i ≠ j → (vs.getD i undef).ownBlock = none ∨ (vs.getD i undef).ownBlock ≠ (vs.getD j undef).ownBlock
theorem OwnRows.vals {w : World} {B : Nat} {v : Value} {rows : List (List Int)} (h : OwnRows w B v rows) : ∃ vs, OwnRowsV w B v vs rows := h
theorem OwnRowsV.rows {w : World} {B : Nat} {v : Value} {vs : List Value} {rows : List (List Int)} (h : OwnRowsV w B v vs rows) : OwnRows w B v rows := ⟨vs, h⟩
theorem OwnRows.nil (w : World) (B : Nat) : OwnRows w B (.slice none 0 0) [] := ⟨[], World.ownsRow_nil _ _ _ _, rfl, fun i hi => absurd hi (Nat.not_lt_zero i), fun i j hi => absurd hi (Nat.not_lt_zero i)⟩

theorem grown_below {w w' : World} {B : Nat} {row : Option Nat} (hg : w.grownBy w' row) (hB : B ≤ w.heap.size) (hr : ∀ k, row = some k → B ≤ k) : Below B w w' := (Below.refl B w).grown hg hB hr

/-- two appends that make a new row: all that was there is as it was -/
theorem fresh2 {w w1 w2 : World} {v1 : Value} {n : Nat} {xs : List Value} (h1 : w.grownBy w1 none) (ho : w1.ownsRow w.heap.size 3 1 v1 n xs) (h2 : w1.grownBy w2 v1.ownBlock) : Below w.heap.size w w2 :=
  (grown_below h1 (Nat.le_refl _) (fun k hk => by cases hk)).trans (grown_below h2 (h1.size) (fun k hk => (ho.lt k hk).1))
theorem fresh1 {w w1 : World} (h1 : w.grownBy w1 none) : Below w.heap.size w w1 := grown_below h1 (Nat.le_refl _) (fun k hk => by cases hk)

theorem ownBlock_lt {w : World} {B : Nat} {e : TypeId} {v : Value} {n : Nat} {xs : List Value} (h : w.ownsRow B e 1 v n xs) {k : Nat} (hk : v.ownBlock = some k) : B ≤ k ∧ k < w.heap.size := h.lt k hk

/-- a new row appended to rows -/
theorem OwnRowsV.snoc {w w2 w3 : World} {B : Nat} {out v2 v3 : Value} {vs : List Value} {rows : List (List Int)} {xs : List Int} {o : Obj} (h : OwnRowsV w B out vs rows) (hB : B ≤ w.heap.size) (hb : Below w.heap.size w w2)
    (hv : OwnInts w2 w.heap.size v2 xs) (h3 : w3.ownsRow B 62 1 v3 (vs.length + 1) (vs ++ [v2])) (hg : (w2.alloc o).grownBy w3 out.ownBlock) : OwnRows w3 B v3 (rows ++ [xs]) := by
  obtain ⟨hV, hl, hrows, hdis⟩ := h
  have hba : Below w.heap.size w (w2.alloc o) := hb.alloc hb.size o
  have hVa : OwnVals (w2.alloc o) B out vs := hV.call hba
  have hva : OwnInts (w2.alloc o) w.heap.size v2 xs := World.ownsRow.alloc hv o
  have hva' : OwnInts (w2.alloc o) B v2 xs := by
    refine ⟨hva.1, ?_⟩
    rcases hva.2 with h | ⟨g, cap, cur, h1, h2, h3⟩
    · exact Or.inl h
    · exact Or.inr ⟨g, cap, cur, h1, by omega, h3⟩
  refine ⟨vs ++ [v2], ?_, by simp [hl], ?_, ?_⟩
  · have : (vs ++ [v2]).length = vs.length + 1 := by simp
    unfold OwnVals
    rw [this]
    exact h3
  · intro i hi
    simp only [List.length_append, List.length_cons, List.length_nil] at hi
    by_cases h : i < rows.length
    · have e1 : (vs ++ [v2]).getD i undef = vs.getD i undef := by simp [List.getD, List.getElem?_append_left (show i < vs.length by omega)]
      have e2 : (rows ++ [xs]).getD i [] = rows.getD i [] := by simp [List.getD, List.getElem?_append_left h]
      rw [e1, e2]
      have hk := (hrows i h).call hba
      exact hk.kept hg (own_ne hk hVa)
    · have hi' : i = rows.length := by omega
      have e1 : (vs ++ [v2]).getD i undef = v2 := by rw [hi', ← hl]; simp [List.getD]
      have e2 : (rows ++ [xs]).getD i [] = xs := by rw [hi']; simp [List.getD]
      rw [e1, e2]
      exact hva'.kept hg (own_ne hva' hVa)
  · intro i j hi hj hij
    simp only [List.length_append, List.length_cons, List.length_nil] at hi hj
    have old : ∀ i, i < rows.length → ∀ k, (vs.getD i undef).ownBlock = some k → k < w.heap.size := fun i h k hk => ((hrows i h).lt k hk).2
    have new : ∀ k, v2.ownBlock = some k → w.heap.size ≤ k := fun k hk => (hv.lt k hk).1
    have e1 : ∀ i, i < rows.length → (vs ++ [v2]).getD i undef = vs.getD i undef := fun i h => by simp [List.getD, List.getElem?_append_left (show i < vs.length by omega)]
    have e2 : ∀ i, ¬ i < rows.length → i < rows.length + 1 → (vs ++ [v2]).getD i undef = v2 := fun i h h' => by
      have : i = vs.length := by omega
      rw [this]; simp [List.getD]
    by_cases h : i < rows.length <;> by_cases h' : j < rows.length
    · rw [e1 i h, e1 j h']; exact hdis i j h h' hij
    · rw [e1 i h, e2 j h' (by omega)]
      cases hk : (vs.getD i undef).ownBlock with
      | none => exact Or.inl rfl
      | some k =>
        refine Or.inr fun he => ?_
        have := old i h k hk
        have := new k he.symm
        omega
    · rw [e2 i h (by omega), e1 j h']
      cases hk : v2.ownBlock with
      | none => exact Or.inl rfl
      | some k =>
        refine Or.inr fun he => ?_
        have := new k hk
        have := old j h' k he.symm
        omega
    · omega

theorem OwnInts.isSlice {w : World} {B : Nat} {v : Value} {n : Nat} {xs : List Value} (h : w.ownsRow B 3 1 v n xs) : ∃ a l c, v = .slice a l c := by
  rcases h.2 with ⟨rfl, hn⟩ | ⟨g, cap, cur, rfl, hg, hb, h1, h2, h3, h4⟩ <;> exact ⟨_, _, _, rfl⟩
theorem OwnVals.isSlice {w : World} {B : Nat} {v : Value} {n : Nat} {xs : List Value} (h : w.ownsRow B 62 1 v n xs) : ∃ a l c, v = .slice a l c := by
  rcases h.2 with ⟨rfl, hn⟩ | ⟨g, cap, cur, rfl, hg, hb, h1, h2, h3, h4⟩ <;> exact ⟨_, _, _, rfl⟩
/-- one new cell -/
theorem one_new (w : World) (v : Value) (T : TypeId) : ∀ j u, [v][j]? = some u → ∃ ad', some (⟨w.heap.size, 0, none⟩ : Addr) = some ad' ∧ (w.alloc (.cells #[v] T)).cell? (ad'.add j) = some u := by
  intro j u hj
  match j, hj with
  | 0, hj =>
    simp at hj
    subst hj
    exact ⟨_, rfl, by rw [Go.WideShapes.add_plain]; simp⟩
theorem one_slice (a : Option Addr) (l c : Nat) : ∀ u ∈ [Value.slice a l c], u.oneCell' = true := by
  intro u hu
  simp at hu
  subst hu
  rfl
theorem one_int (k : IntKind) (x : Int) : ∀ u ∈ [Value.int k x], u.oneCell' = true := by
  intro u hu
  simp at hu
  subst hu
  rfl
theorem le_alloc {B : Nat} {w : World} (h : B ≤ w.heap.size) (o : Obj) : B ≤ (w.alloc o).heap.size := by simp; omega

theorem getD_set_eq {α : Type} (l : List α) (k : Nat) (x d : α) (h : k < l.length) : (l.set k x).getD k d = x := by simp [List.getD, h]
theorem getD_set_ne {α : Type} (l : List α) (k i : Nat) (x d : α) (h : k ≠ i) : (l.set k x).getD i d = l.getD i d := by simp [List.getD, List.getElem?_set_ne h]

theorem ownInts_mono {w : World} {B B' : Nat} {v : Value} {xs : List Int} (h : OwnInts w B' v xs) (hB : B ≤ B') : OwnInts w B v xs := by
  refine ⟨h.1, ?_⟩
  rcases h.2 with h | ⟨g, cap, cur, h1, h2, h3⟩
  · exact Or.inl h
  · exact Or.inr ⟨g, cap, cur, h1, by omega, h3⟩

/-- a store into one block of the call's own -/
theorem below_store {B : Nat} {w : World} (g j : Nat) (u : Value) (hg : B ≤ g) : Below B w (w.setCell ⟨g, j, none⟩ u) := (Below.refl B w).setCell hg u

/-- a new row put at place k of the rows -/
theorem OwnRowsV.put {w w2 : World} {B G n cap : Nat} {v2 : Value} {vs : List Value} {rows : List (List Int)} {xs : List Int} (h : OwnRowsV w B (.slice (some ⟨G, 0, none⟩) n cap) vs rows) (hB : B ≤ w.heap.size) (hb : Below w.heap.size w w2)
    (hv : OwnInts w2 w.heap.size v2 xs) (k : Nat) (hk : k < rows.length) : OwnRowsV (w2.setCell ⟨G, k, none⟩ v2) B (.slice (some ⟨G, 0, none⟩) n cap) (vs.set k v2) (rows.set k xs) := by
  obtain ⟨hV, hl, hrows, hdis⟩ := h
  have hV2 := hV.call hb
  have hn : n = vs.length := by
    rcases hV.2 with ⟨h1, _⟩ | ⟨g, cap', cur, h1, _⟩
    · simp at h1
    · simp at h1; exact h1.2.1
  subst hn
  have st := World.ownsRow.stored (show w2.ownsRow B 62 1 (.slice (some ⟨G, 0, none⟩) vs.length cap) vs.length vs from hV2) k v2
  refine ⟨by have := st.1; unfold OwnVals; rw [List.length_set]; exact this, by simp [hl], ?_, ?_⟩
  · intro i hi
    rw [List.length_set] at hi
    by_cases hik : k = i
    · subst hik
      rw [getD_set_eq _ _ _ _ (by omega), getD_set_eq _ _ _ _ hk]
      exact (ownInts_mono hv hB).kept st.2 (own_ne hv hV2)
    · rw [getD_set_ne _ _ _ _ _ hik, getD_set_ne _ _ _ _ _ hik]
      have hi2 := (hrows i hi).call hb
      exact hi2.kept st.2 (own_ne hi2 hV2)
  · intro i j hi hj hij
    rw [List.length_set] at hi hj
    have old : ∀ i, i < rows.length → ∀ k, (vs.getD i undef).ownBlock = some k → k < w.heap.size := fun i h k hk => ((hrows i h).lt k hk).2
    have new : ∀ k, v2.ownBlock = some k → w.heap.size ≤ k := fun k hk => (hv.lt k hk).1
    by_cases h1 : k = i
    · subst h1
      rw [getD_set_eq _ _ _ _ (by omega), getD_set_ne _ _ _ _ _ hij]
      cases he : v2.ownBlock with
      | none => exact Or.inl rfl
      | some q =>
        refine Or.inr fun e => ?_
        have := new q he
        have := old j hj q e.symm
        omega
    · by_cases h2 : k = j
      · subst h2
        rw [getD_set_eq _ _ _ _ (by omega), getD_set_ne _ _ _ _ _ h1]
        cases he : (vs.getD i undef).ownBlock with
        | none => exact Or.inl rfl
        | some q =>
          refine Or.inr fun e => ?_
          have := new q e.symm
          have := old i hi q he
          omega
      · rw [getD_set_ne _ _ _ _ _ h1, getD_set_ne _ _ _ _ _ h2]
        exact hdis i j hi hj hij

/-- the block of the rows -/
theorem OwnRowsV.base {w : World} {B G n cap : Nat} {vs : List Value} {rows : List (List Int)} (h : OwnRowsV w B (.slice (some ⟨G, 0, none⟩) n cap) vs rows) : B ≤ G ∧ G < w.heap.size := h.1.lt G rfl
theorem OwnRowsV.free {w : World} {B G n cap : Nat} {vs : List Value} {rows : List (List Int)} (h : OwnRowsV w B (.slice (some ⟨G, 0, none⟩) n cap) vs rows) (j : Nat) : w.frozen? ⟨G, j, none⟩ = false := by
  rcases h.1.2 with ⟨h1, _⟩ | ⟨g, cap', cur, h1, hb, hg, _⟩
  · simp at h1
  · simp only [Value.slice.injEq, Option.some.injEq, Addr.mk.injEq, and_true] at h1
    obtain ⟨rfl, h1⟩ := h1
    simp [World.frozen?, hg]
theorem OwnRowsV.isCell {w : World} {B G n cap : Nat} {vs : List Value} {rows : List (List Int)} (h : OwnRowsV w B (.slice (some ⟨G, 0, none⟩) n cap) vs rows) {k : Nat} (hk : k < rows.length) : w.cell? ⟨G, k, none⟩ = some (vs.getD k undef) := by
  obtain ⟨a, c, he, _, _, hc⟩ := h.1.cell
  obtain ⟨g, hg, hcell⟩ := hc k (by rw [h.2.1]; exact hk)
  simp only [Value.slice.injEq] at he
  obtain ⟨ha, _, _⟩ := he
  rw [hg] at ha
  simp only [Option.some.injEq, Addr.mk.injEq, and_true] at ha
  obtain rfl := ha
  exact hcell

theorem ints_made {w : World} {B n : Nat} {v : Value} (h : w.ownsRow B 3 1 v n (madeCells (Value.int .i64 0).cells (n * 1)).toList) : OwnInts w B v (List.replicate n 0) := by
  have e : (madeCells (Value.int .i64 0).cells (n * 1)).toList = (List.replicate n (0 : Int)).map (Value.int .i64) := by
    rw [show (Value.int .i64 0).cells = #[Value.int .i64 0] from rfl, Nat.mul_one, toList_madeCells_one, List.map_replicate]
  unfold OwnInts
  rw [List.length_replicate, ← e]
  exact h
theorem vals_made {w : World} {B n : Nat} {v : Value} (h : w.ownsRow B 62 1 v n (madeCells (Value.slice none 0 0).cells (n * 1)).toList) : OwnRowsV w B v (List.replicate n (.slice none 0 0)) (List.replicate n []) := by
  have e : (madeCells (Value.slice none 0 0).cells (n * 1)).toList = List.replicate n (Value.slice none 0 0) := by
    rw [show (Value.slice none 0 0).cells = #[Value.slice none 0 0] from rfl, Nat.mul_one, toList_madeCells_one]
  refine ⟨?_, by simp, ?_, ?_⟩
  · unfold OwnVals
    rw [List.length_replicate, ← e]
    exact h
  · intro i hi
    rw [List.length_replicate] at hi
    have e1 : (List.replicate n (Value.slice none 0 0)).getD i undef = .slice none 0 0 := by simp [List.getD, hi]
    have e2 : (List.replicate n ([] : List Int)).getD i [] = [] := by simp [List.getD, hi]
    rw [e1, e2]
    exact World.ownsRow_nil _ _ _ _
  · intro i j hi hj hij
    rw [List.length_replicate] at hi
    have e1 : (List.replicate n (Value.slice none 0 0)).getD i undef = .slice none 0 0 := by simp [List.getD, hi]
    rw [e1]
    exact Or.inl rfl

/-- one element of one row -/
theorem RowsAt.elem {w : World} {b off : Nat} {n : Nat} {rows : List (List Int)} (h : RowsAt w (Option.some ⟨b, off, none⟩) n rows) {i : Nat} (hi : i < n) {j : Nat} (hj : j < (rows.getD i []).length) :
    ∃ b2 off2 rc, w.cell? ⟨b, off + i, none⟩ = Option.some (.slice (Option.some ⟨b2, off2, none⟩) (rows.getD i []).length rc) ∧ w.cell? ⟨b2, off2 + j, none⟩ = Option.some (.int .i64 ((rows.getD i []).getD j 0)) := by
  obtain ⟨ra, rc, hc, h1, h2, h3, h4⟩ := h.row hi
  obtain ⟨b2, off2, hra, hcell⟩ := h4.2 j hj
  exact ⟨b2, off2, rc, by rw [hc, hra], hcell⟩

theorem OwnInts.nil (w : World) (B : Nat) : OwnInts w B (.slice none 0 0) [] := World.ownsRow_nil _ _ _ _
theorem OwnInts.snoc {w : World} {B : Nat} {v : Value} {xs : List Int} {x : Int} {n : Nat} (hn : n = xs.length) (h : w.ownsRow B 3 1 v (n + 1) (xs.map (Value.int .i64) ++ [Value.int .i64 x])) : OwnInts w B v (xs ++ [x]) := by
  unfold OwnInts
  rw [List.map_append, List.length_append, ← hn]
  exact h
/-- one append to a row that is being made -/
theorem own_grow {w wi w2 : World} {v : Value} {xs : List Int} {o : Obj} (hb : Below w.heap.size w wi) (h : OwnInts wi w.heap.size v xs) (hg : (wi.alloc o).grownBy w2 v.ownBlock) : Below w.heap.size w w2 :=
  hb.trans (((Below.refl w.heap.size wi).alloc hb.size o).trans (grown_below hg (le_alloc hb.size o) (fun k hk => (h.lt k hk).1)))

/-- an error by its number -/
def errV (e : Int) : Value := if e = 0 then .nilIface else .iface 80 (.int .i64 e)
theorem errV_zero : errV 0 = .nilIface := rfl
theorem errV_pos {e : Int} (h : e ≠ 0) : errV e = .iface 80 (.int .i64 e) := by unfold errV; rw [if_neg h]
/-- the sizes that a row's reading gives -/
def Small (n : Nat) (rows : List (List Int)) : Prop := n ≤ 9223372036854775807 ∧ ∀ k, k < n → (rows.getD k []).length ≤ 9223372036854775807

/-- one element of owned rows: where it lies; what a store makes of them -/
theorem OwnRowsV.elem {w : World} {B : Nat} {v : Value} {vs : List Value} {rows : List (List Int)} (h : OwnRowsV w B v vs rows) {i : Nat} (hi : i < rows.length) (hp : 0 < (rows.getD i []).length) :
    ∃ g rc, vs.getD i undef = .slice (Option.some ⟨g, 0, none⟩) (rows.getD i []).length rc ∧ B ≤ g ∧ g < w.heap.size ∧ (∀ j, w.frozen? ⟨g, j, none⟩ = false) ∧
      (∀ j, j < (rows.getD i []).length → w.cell? ⟨g, j, none⟩ = Option.some (.int .i64 ((rows.getD i []).getD j 0))) ∧
      ∀ j x, OwnRowsV (w.setCell ⟨g, j, none⟩ (.int .i64 x)) B v vs (rows.set i ((rows.getD i []).set j x)) := by
  obtain ⟨hV, hl, hrows, hdis⟩ := h
  have hr := hrows i hi
  have hr' := hr
  rcases hr'.2 with ⟨e, hn⟩ | ⟨g, cap, cur, e, hg, hb, h1, h2, h3, h4⟩
  · omega
  · have hlt := (World.ownsRow.lt hr g (by rw [e]; rfl)).2
    have ho : w.ownsRow B 3 1 (.slice (Option.some ⟨g, 0, none⟩) (rows.getD i []).length cap) (rows.getD i []).length ((rows.getD i []).map (Value.int .i64)) := by rw [← e]; exact hr
    refine ⟨g, cap, e, hg, hlt, fun j => ho.frozenAt j, fun j hj => ?_, fun j x => ?_⟩
    · rw [ho.cellAt j (by omega)]
      generalize rows.getD i [] = row at hj ⊢
      simp [hj, List.getD]
    · have st := ho.stored j (.int .i64 x)
      refine ⟨?_, by rw [List.length_set]; exact hl, ?_, ?_⟩
      · refine hV.kept st.2 ?_
        have := own_ne hr hV
        rw [e] at this
        rcases this with h | h
        · simp [Value.ownBlock] at h
        · exact Or.inr (fun he => h he.symm)
      · intro k hk
        rw [List.length_set] at hk
        by_cases hik : i = k
        · subst hik
          rw [getD_set_eq _ _ _ _ hi, e]
          unfold OwnInts
          rw [List.length_set, List.map_set]
          exact st.1
        · rw [getD_set_ne _ _ _ _ _ hik]
          refine (hrows k hk).kept st.2 ?_
          have := hdis k i hk hi (fun h => hik h.symm)
          rw [e] at this
          exact this
      · intro p q hp hq hpq
        rw [List.length_set] at hp hq
        exact hdis p q hp hq hpq
/-- two rows' blocks are unlike -/
theorem OwnRowsV.ne {w : World} {B : Nat} {v : Value} {vs : List Value} {rows : List (List Int)} (h : OwnRowsV w B v vs rows) {i j g g' n n' c c' : Nat} (hi : i < rows.length) (hj : j < rows.length) (hij : i ≠ j)
    (e : vs.getD i undef = .slice (Option.some ⟨g, 0, none⟩) n c) (e' : vs.getD j undef = .slice (Option.some ⟨g', 0, none⟩) n' c') : g ≠ g' := by
  have := h.2.2.2 i j hi hj hij
  rw [e, e'] at this
  rcases this with h | h
  · simp [Value.ownBlock] at h
  · rintro rfl
    exact h rfl
/-- a row's block is not the block of the rows -/
theorem OwnRowsV.ne0 {w : World} {B G n0 cap : Nat} {vs : List Value} {rows : List (List Int)} (h : OwnRowsV w B (.slice (Option.some ⟨G, 0, none⟩) n0 cap) vs rows) {i g n c : Nat} (hi : i < rows.length)
    (e : vs.getD i undef = .slice (Option.some ⟨g, 0, none⟩) n c) : g ≠ G := by
  have := own_ne (h.2.2.1 i hi) h.1
  rw [e] at this
  rcases this with h | h
  · simp [Value.ownBlock] at h
  · rintro rfl
    exact h rfl

theorem OwnRowsV.call {w w' : World} {B : Nat} {v : Value} {vs : List Value} {rows : List (List Int)} (h : OwnRowsV w B v vs rows) (hb : Below w.heap.size w w') : OwnRowsV w' B v vs rows := by
  obtain ⟨h1, h2, h3, h4⟩ := h
  exact ⟨h1.call hb, h2, fun i hi => (h3 i hi).call hb, h4⟩

theorem OwnRowsV.mono {w : World} {B B' : Nat} {v : Value} {vs : List Value} {rows : List (List Int)} (h : OwnRowsV w B' v vs rows) (hB : B ≤ B') : OwnRowsV w B v vs rows := by
  obtain ⟨h1, h2, h3, h4⟩ := h
  refine ⟨?_, h2, fun i hi => ownInts_mono (h3 i hi) hB, h4⟩
  refine ⟨h1.1, ?_⟩
  rcases h1.2 with h | ⟨g, cap, cur, e1, e2, e3⟩
  · exact Or.inl h
  · exact Or.inr ⟨g, cap, cur, e1, by omega, e3⟩
theorem OwnRows.mono {w : World} {B B' : Nat} {v : Value} {rows : List (List Int)} (h : OwnRows w B' v rows) (hB : B ≤ B') : OwnRows w B v rows := by
  obtain ⟨vs, hv⟩ := h.vals
  exact (hv.mono hB).rows

theorem IntsAt_two (w : World) (B : Nat) (x y : Int) (h0 : w.cell? ⟨B, 0, none⟩ = some (.int .i64 x)) (h1 : w.cell? ⟨B, 1, none⟩ = some (.int .i64 y)) : IntsAt w (some ⟨B, 0, none⟩) 2 [x, y] := by
  refine ⟨rfl, fun i hi => ⟨B, 0, rfl, ?_⟩⟩
  match i, hi with
  | 0, _ => simpa using h0
  | 1, _ => simpa using h1
end Go.Proofs.YtokneabcgmjhdaaGreatDoor

/- Plain law: determinants by the first row, sums, wraps. No program in sight. -/
namespace Go.Proofs.YtokneabcgmjhdaaGreatDoor
open Go.RowKit
set_option linter.unusedVariables false
set_option linter.unusedSimpArgs false

theorem wrap_ex (x : Int) : ∃ q : Int, wrap64 x = x + 18446744073709551616 * q := ⟨-((x + 9223372036854775808) / 18446744073709551616), by unfold wrap64; omega⟩
theorem wrap_add (x q : Int) : wrap64 (x + 18446744073709551616 * q) = wrap64 x := by unfold wrap64; omega
theorem wrap_wrap (x : Int) : wrap64 (wrap64 x) = wrap64 x := by
  obtain ⟨q, h⟩ := wrap_ex x
  rw [h, wrap_add, h]
theorem wrap_add_l (x y : Int) : wrap64 (wrap64 x + y) = wrap64 (x + y) := by
  obtain ⟨q, h⟩ := wrap_ex x
  rw [h, show x + 18446744073709551616 * q + y = (x + y) + 18446744073709551616 * q from by omega, wrap_add]
theorem wrap_add_r (x y : Int) : wrap64 (x + wrap64 y) = wrap64 (x + y) := by rw [Int.add_comm, wrap_add_l, Int.add_comm]
theorem wrap_mul_l (x y : Int) : wrap64 (wrap64 x * y) = wrap64 (x * y) := by
  obtain ⟨q, h⟩ := wrap_ex x
  rw [h, show (x + 18446744073709551616 * q) * y = x * y + 18446744073709551616 * (q * y) from by grind, wrap_add]
theorem wrap_mul_r (x y : Int) : wrap64 (x * wrap64 y) = wrap64 (x * y) := by rw [Int.mul_comm, wrap_mul_l, Int.mul_comm]
theorem wrap_in {n : Int} (h1 : -9223372036854775808 ≤ n) (h2 : n ≤ 9223372036854775807) : wrap64 n = n := by unfold wrap64; omega

/-- f 0 + .. + f (k - 1) -/
def sumTo (f : Nat → Int) : Nat → Int
  | 0 => 0
  | k + 1 => sumTo f k + f k
theorem sumTo_congr {f g : Nat → Int} {n : Nat} (h : ∀ i, i < n → f i = g i) : sumTo f n = sumTo g n := by
  induction n with
  | zero => rfl
  | succ n ih => rw [sumTo, sumTo, ih (fun i hi => h i (by omega)), h n (by omega)]

/-- 1, -1, 1, .. -/
def sgn (k : Nat) : Int := if k % 2 = 0 then 1 else -1
theorem sgn_zero : sgn 0 = 1 := rfl
theorem sgn_succ (k : Nat) : sgn (k + 1) = -sgn k := by
  unfold sgn
  by_cases h : k % 2 = 0
  · rw [if_pos h, if_neg (by omega)]
  · rw [if_neg h, if_pos (by omega)]; rfl
theorem sgn_bd (k : Nat) : -1 ≤ sgn k ∧ sgn k ≤ 1 := by unfold sgn; split <;> omega

/-- a matrix without row i and column j -/
def cut (rows : List (List Int)) (i j : Nat) : List (List Int) := (rows.eraseIdx i).map (·.eraseIdx j)

/-- the determinant, of n rows, by the first row -/
def detN : Nat → List (List Int) → Int
  | 0, _ => 1
  | n + 1, m => sumTo (fun j => sgn j * (m.getD 0 []).getD j 0 * detN n (cut m 0 j)) (n + 1)

/-- n rows of n -/
def Sq (n : Nat) (m : List (List Int)) : Prop := m.length = n ∧ ∀ i, i < n → (m.getD i []).length = n

theorem getD_cut (m : List (List Int)) (i j k : Nat) : (cut m i j).getD k [] = (m.getD (if k < i then k else k + 1) []).eraseIdx j := by
  unfold cut
  rw [List.getD_eq_getElem?_getD, List.getElem?_map, List.getElem?_eraseIdx]
  split
  · cases h : m[k]? <;> simp [List.getD_eq_getElem?_getD, h]
  · cases h : m[k + 1]? <;> simp [List.getD_eq_getElem?_getD, h]

theorem Sq.cut {n : Nat} {m : List (List Int)} (h : Sq (n + 1) m) {i j : Nat} (hi : i < n + 1) (hj : j < n + 1) : Sq n (cut m i j) := by
  refine ⟨?_, fun k hk => ?_⟩
  · unfold Go.Proofs.YtokneabcgmjhdaaGreatDoor.cut
    rw [List.length_map, List.length_eraseIdx_of_lt (by rw [h.1]; exact hi), h.1]
    rfl
  · rw [getD_cut]
    have h2 := h.2 (if k < i then k else k + 1) (by split <;> omega)
    rw [List.length_eraseIdx_of_lt (by rw [h2]; exact hj), h2]
    rfl

/-- one more term, as the machine adds it -/
theorem wrap_term (P s x d : Int) : wrap64 (wrap64 P + wrap64 (wrap64 (s * x) * wrap64 d)) = wrap64 (P + s * x * d) := by
  rw [wrap_add_l, wrap_add_r, ← wrap_add_r, wrap_mul_l, wrap_mul_r, wrap_add_r]
def cutTo (rows : List (List Int)) (i j k : Nat) : List (List Int) := ((rows.take k).eraseIdx i).map (·.eraseIdx j)

theorem cutTo_hit (rows : List (List Int)) (ci cj k : Nat) (hk : k < rows.length) (h : k = ci) : cutTo rows ci cj (k + 1) = cutTo rows ci cj k := by
  subst h
  have hl : (rows.take k).length = k := by simp; omega
  have e : (rows.take (k + 1)).eraseIdx k = (rows.take k).eraseIdx k := by
    rw [List.take_succ_eq_append_getElem hk, List.eraseIdx_append_of_length_le (by omega), hl, List.eraseIdx_of_length_le (l := rows.take k) (by omega)]
    simp
  unfold cutTo
  rw [e]
theorem cutTo_miss (rows : List (List Int)) (ci cj k : Nat) (hk : k < rows.length) (h : k ≠ ci) : cutTo rows ci cj (k + 1) = cutTo rows ci cj k ++ [(rows.getD k []).eraseIdx cj] := by
  have e : rows.getD k [] = rows[k] := by simp [List.getD, hk]
  have hl : (rows.take k).length = k := by simp; omega
  have e2 : (rows.take (k + 1)).eraseIdx ci = (rows.take k).eraseIdx ci ++ [rows[k]] := by
    rw [List.take_succ_eq_append_getElem hk]
    rcases Nat.lt_or_gt_of_ne h with h | h
    · rw [List.eraseIdx_of_length_le (l := rows.take k ++ [rows[k]]) (by simp; omega), List.eraseIdx_of_length_le (l := rows.take k) (by omega)]
    · rw [List.eraseIdx_append_of_lt_length (by omega)]
  unfold cutTo
  rw [e, e2, List.map_append]
  rfl

theorem eraseTo_hit (row : List Int) (j l : Nat) (hl : l < row.length) (h : l = j) : (row.take (l + 1)).eraseIdx j = (row.take l).eraseIdx j := by
  subst h
  have hl' : (row.take l).length = l := by simp; omega
  rw [List.take_succ_eq_append_getElem hl, List.eraseIdx_append_of_length_le (by omega), hl', List.eraseIdx_of_length_le (l := row.take l) (by omega)]
  simp
theorem eraseTo_miss (row : List Int) (j l : Nat) (hl : l < row.length) (h : l ≠ j) : (row.take (l + 1)).eraseIdx j = (row.take l).eraseIdx j ++ [row.getD l 0] := by
  have e : row.getD l 0 = row[l] := by simp [List.getD, hl]
  have hl' : (row.take l).length = l := by simp; omega
  rw [e, List.take_succ_eq_append_getElem hl]
  rcases Nat.lt_or_gt_of_ne h with h | h
  · rw [List.eraseIdx_of_length_le (l := row.take l ++ [row[l]]) (by simp; omega), List.eraseIdx_of_length_le (l := row.take l) (by omega)]
  · rw [List.eraseIdx_append_of_lt_length (by omega)]
end Go.Proofs.YtokneabcgmjhdaaGreatDoor

/- Plain law: what is wrong with a matrix. No program in sight. -/
namespace Go.Proofs.YtokneabcgmjhdaaGreatDoor
open Go.RowKit
set_option linter.unusedVariables false
set_option linter.unusedSimpArgs false

def outB (lo hi x : Int) : Bool := decide (x < lo) || decide (hi < x)
def anyOut (lo hi : Int) (xs : List Int) : Bool := xs.any (outB lo hi)

theorem anyOut_snoc (lo hi : Int) (xs : List Int) (k : Nat) (h : k < xs.length) (h0 : (xs.take k).any (outB lo hi) = false) (h1 : outB lo hi (xs.getD k 0) = false) :
    (xs.take (k + 1)).any (outB lo hi) = false := by
  rw [List.take_succ_eq_append_getElem h, List.any_append, h0]
  have : xs.getD k 0 = xs[k] := by simp [List.getD, h]
  rw [this] at h1
  simp [h1]

theorem anyOut_hit (lo hi : Int) (xs : List Int) (k : Nat) (h : k < xs.length) (h1 : outB lo hi (xs.getD k 0) = true) :
    anyOut lo hi xs = true := by
  have : xs.getD k 0 = xs[k] := by simp [List.getD, h]
  rw [this] at h1
  exact List.any_eq_true.2 ⟨xs[k], List.getElem_mem _, h1⟩

def inB (n lo hi : Int) : Bool := decide (lo ≤ n) && decide (n ≤ hi)
theorem inB_out (n lo hi : Int) : inB n lo hi = !outB lo hi n := by
  simp only [inB, outB]
  by_cases h1 : lo ≤ n <;> by_cases h2 : n ≤ hi <;> simp [h1, h2] <;> omega
theorem inB_true {n lo hi : Int} (h : inB n lo hi = true) : lo ≤ n ∧ n ≤ hi := by simpa [inB] using h

/-- what is wrong with rows that should be so wide -/
def rowsErr (L : Nat) (lo hi : Int) : List (List Int) → Int
  | [] => 0
  | r :: rs => if r.length ≠ L then 3 else if anyOut lo hi r = true then 1 else rowsErr L lo hi rs
def matErr (rows : List (List Int)) (most lo hi : Int) : Int :=
  if rows.length = 0 ∨ (rows.getD 0 []).length = 0 then 5 else if most < rows.length ∨ most < (rows.getD 0 []).length then 4 else rowsErr (rows.getD 0 []).length lo hi rows
def sqErr (rows : List (List Int)) (most lo hi : Int) : Int :=
  if matErr rows most lo hi ≠ 0 then matErr rows most lo hi else if rows.length ≠ (rows.getD 0 []).length then 3 else 0

theorem rowsErr_skip (L : Nat) (lo hi : Int) : ∀ (rows : List (List Int)) (k : Nat), k ≤ rows.length → (∀ i, i < k → (rows.getD i []).length = L ∧ anyOut lo hi (rows.getD i []) = false) → rowsErr L lo hi rows = rowsErr L lo hi (rows.drop k) := by
  intro rows
  induction rows with
  | nil => intro k hk _; simp at hk; subst hk; rfl
  | cons r rs ih =>
    intro k hk h
    cases k with
    | zero => rfl
    | succ k =>
      have h0 := h 0 (by omega)
      simp only [List.getD_cons_zero] at h0
      rw [rowsErr, if_neg (by simp [h0.1]), if_neg (by simp [h0.2]), List.drop_succ_cons]
      exact ih k (by simpa using hk) (fun i hi => by have := h (i + 1) (by omega); simpa using this)
theorem drop_cons (rows : List (List Int)) (k : Nat) (hk : k < rows.length) : rows.drop k = rows.getD k [] :: rows.drop (k + 1) := by
  rw [List.drop_eq_getElem_cons hk]
  simp [List.getD, hk]
theorem rowsErr_three {L : Nat} {lo hi : Int} {rows : List (List Int)} {k : Nat} (hk : k < rows.length) (h : ∀ i, i < k → (rows.getD i []).length = L ∧ anyOut lo hi (rows.getD i []) = false) (hb : (rows.getD k []).length ≠ L) : rowsErr L lo hi rows = 3 := by
  rw [rowsErr_skip L lo hi rows k (by omega) h, drop_cons rows k hk, rowsErr, if_pos hb]
theorem rowsErr_one {L : Nat} {lo hi : Int} {rows : List (List Int)} {k : Nat} (hk : k < rows.length) (h : ∀ i, i < k → (rows.getD i []).length = L ∧ anyOut lo hi (rows.getD i []) = false) (hb : (rows.getD k []).length = L) (hb2 : anyOut lo hi (rows.getD k []) = true) : rowsErr L lo hi rows = 1 := by
  rw [rowsErr_skip L lo hi rows k (by omega) h, drop_cons rows k hk, rowsErr, if_neg (fun h => h hb), if_pos hb2]
theorem rowsErr_zero {L : Nat} {lo hi : Int} {rows : List (List Int)} (h : ∀ i, i < rows.length → (rows.getD i []).length = L ∧ anyOut lo hi (rows.getD i []) = false) : rowsErr L lo hi rows = 0 := by
  rw [rowsErr_skip L lo hi rows rows.length (Nat.le_refl _) h, List.drop_length, rowsErr]

theorem rowsErr_good {L : Nat} {lo hi : Int} : ∀ {rows : List (List Int)}, rowsErr L lo hi rows = 0 → ∀ r ∈ rows, r.length = L ∧ anyOut lo hi r = false := by
  intro rows
  induction rows with
  | nil => intro _ r hr; cases hr
  | cons q rs ih =>
    intro h r hr
    rw [rowsErr] at h
    split at h
    · cases h
    · split at h
      · cases h
      · rename_i h1 h2
        rcases List.mem_cons.1 hr with rfl | hr
        · exact ⟨by simpa using h1, by simpa using h2⟩
        · exact ih h r hr

/-- what a matrix without fault is -/
theorem sqErr_good {rows : List (List Int)} {most lo hi : Int} (h : sqErr rows most lo hi = 0) : 0 < rows.length ∧ (rows.length : Int) ≤ most ∧ ∀ r ∈ rows, r.length = rows.length ∧ anyOut lo hi r = false := by
  unfold sqErr at h
  split at h
  · rename_i g; exact absurd h g
  · rename_i g
    split at h
    · cases h
    · rename_i g2
      have g : matErr rows most lo hi = 0 := by simpa using g
      have g2 : rows.length = (rows.getD 0 []).length := by simpa using g2
      unfold matErr at g
      split at g
      · cases g
      · split at g
        · cases g
        · rename_i g3 g4
          refine ⟨by omega, by omega, fun r hr => ?_⟩
          rw [g2]
          exact rowsErr_good g r hr

end Go.Proofs.YtokneabcgmjhdaaGreatDoor

/- Plain law: how great a determinant or a permanent can be. No program in sight. -/
namespace Go.Proofs.YtokneabcgmjhdaaGreatDoor
open Go.RowKit
set_option linter.unusedVariables false
set_option linter.unusedSimpArgs false

def permN : Nat → List (List Int) → Int
  | 0, _ => 1
  | n + 1, m => sumTo (fun j => (m.getD 0 []).getD j 0 * permN n (cut m 0 j)) (n + 1)

/-- all entries are within B -/
def Ent (B : Int) (m : List (List Int)) : Prop := ∀ i j, -B ≤ (m.getD i []).getD j 0 ∧ (m.getD i []).getD j 0 ≤ B

theorem getD_eraseIdx (l : List Int) (j k : Nat) : (l.eraseIdx j).getD k 0 = l.getD (if k < j then k else k + 1) 0 := by
  simp only [List.getD_eq_getElem?_getD, List.getElem?_eraseIdx]
  split <;> rfl
theorem Ent.cut {B : Int} {m : List (List Int)} (h : Ent B m) (i j : Nat) : Ent B (cut m i j) := by
  intro a b
  rw [getD_cut, getD_eraseIdx]
  exact h _ _

theorem bd_mul {a b B C : Int} (h1 : -B ≤ a) (h2 : a ≤ B) (h3 : -C ≤ b) (h4 : b ≤ C) : -(B * C) ≤ a * b ∧ a * b ≤ B * C := by
  have e1 : 0 ≤ (B - a) * (C + b) := Int.mul_nonneg (by omega) (by omega)
  have e2 : 0 ≤ (B + a) * (C - b) := Int.mul_nonneg (by omega) (by omega)
  have e3 : 0 ≤ (B - a) * (C - b) := Int.mul_nonneg (by omega) (by omega)
  have e4 : 0 ≤ (B + a) * (C + b) := Int.mul_nonneg (by omega) (by omega)
  simp only [Int.sub_mul, Int.add_mul, Int.mul_add, Int.mul_sub] at e1 e2 e3 e4
  generalize B * C = p at *
  generalize a * b = q at *
  generalize B * b = r at *
  generalize a * C = s at *
  omega
theorem sumTo_bd {f : Nat → Int} {B : Int} {n : Nat} (h : ∀ i, i < n → -B ≤ f i ∧ f i ≤ B) : -(n * B) ≤ sumTo f n ∧ sumTo f n ≤ n * B := by
  induction n with
  | zero => simp [sumTo]
  | succ n ih =>
    have h1 := ih (fun i hi => h i (by omega))
    have h2 := h n (by omega)
    rw [sumTo]
    have e : ((n + 1 : Nat) : Int) * B = n * B + B := by rw [Int.natCast_add]; grind
    rw [e]
    omega

/-- n! B^n -/
def bnd (B : Int) : Nat → Int
  | 0 => 1
  | n + 1 => (n + 1 : Nat) * (B * bnd B n)
theorem permN_bd {B : Int} (n : Nat) : ∀ {m : List (List Int)}, Ent B m → -(bnd B n) ≤ permN n m ∧ permN n m ≤ bnd B n := by
  induction n with
  | zero => intro m _; simp [permN, bnd]
  | succ n ih =>
    intro m h
    rw [permN, bnd]
    refine sumTo_bd fun j hj => ?_
    have h1 := h 0 j
    have h2 := ih (h.cut 0 j)
    exact bd_mul h1.1 h1.2 h2.1 h2.2
theorem detN_bd {B : Int} (n : Nat) : ∀ {m : List (List Int)}, Ent B m → -(bnd B n) ≤ detN n m ∧ detN n m ≤ bnd B n := by
  induction n with
  | zero => intro m _; simp [detN, bnd]
  | succ n ih =>
    intro m h
    rw [detN, bnd]
    refine sumTo_bd fun j hj => ?_
    have h1 := h 0 j
    have h2 := ih (h.cut 0 j)
    have h3 : -B ≤ sgn j * (m.getD 0 []).getD j 0 ∧ sgn j * (m.getD 0 []).getD j 0 ≤ B := by
      unfold sgn
      split <;> omega
    exact bd_mul h3.1 h3.2 h2.1 h2.2

theorem mem_getD {α : Type} (l : List α) (i : Nat) (d : α) : l.getD i d ∈ l ∨ l.getD i d = d := by
  by_cases h : i < l.length
  · left; simp [List.getD, h]
  · right; simp [List.getD, h]

/-- a matrix without fault: square, its entries in bounds -/
theorem good_sq {rows : List (List Int)} {most lo hi : Int} (h : sqErr rows most lo hi = 0) : Sq rows.length rows := by
  obtain ⟨h1, h2, h3⟩ := sqErr_good h
  refine ⟨rfl, fun i hi => ?_⟩
  have : rows.getD i [] ∈ rows := by simp [List.getD, hi]
  exact (h3 _ this).1
theorem good_ent {rows : List (List Int)} {most B : Int} (hB : 0 ≤ B) (h : sqErr rows most (-B) B = 0) : Ent B rows := by
  obtain ⟨h1, h2, h3⟩ := sqErr_good h
  intro i j
  rcases mem_getD rows i [] with h | h
  · have h4 := (h3 _ h).2
    rcases mem_getD (rows.getD i []) j 0 with g | g
    · have : outB (-B) B ((rows.getD i []).getD j 0) = false := by
        have := List.any_eq_false.1 h4 _ g
        simpa using this
      generalize (rows.getD i []).getD j 0 = x at *
      simp [outB] at this
      omega
    · rw [g]; omega
  · rw [h]
    simp
    omega
end Go.Proofs.YtokneabcgmjhdaaGreatDoor

/- Plain law: determinants and permanents by the same sums: the expansion by any row, turned, exchanged, added. No program in sight. -/
namespace Go.Proofs.YtokneabcgmjhdaaGreatDoor
open Go.RowKit
set_option linter.unusedVariables false
set_option linter.unusedSimpArgs false

theorem sumTo_head (f : Nat → Int) (n : Nat) : sumTo f (n + 1) = f 0 + sumTo (fun i => f (i + 1)) n := by
  induction n with
  | zero => simp [sumTo]
  | succ n ih => rw [sumTo, ih, sumTo]; omega
theorem sumTo_add (f g : Nat → Int) (n : Nat) : sumTo (fun i => f i + g i) n = sumTo f n + sumTo g n := by
  induction n with
  | zero => rfl
  | succ n ih => rw [sumTo, ih, sumTo, sumTo]; omega
theorem sumTo_sub (f g : Nat → Int) (n : Nat) : sumTo (fun i => f i - g i) n = sumTo f n - sumTo g n := by
  induction n with
  | zero => rfl
  | succ n ih => rw [sumTo, ih, sumTo, sumTo]; omega
theorem sumTo_mul (c : Int) (f : Nat → Int) (n : Nat) : sumTo (fun i => c * f i) n = c * sumTo f n := by
  induction n with
  | zero => simp [sumTo]
  | succ n ih => rw [sumTo, ih, sumTo, Int.mul_add]
theorem sumTo_zero (n : Nat) : sumTo (fun _ => 0) n = 0 := by
  induction n with
  | zero => rfl
  | succ n ih => rw [sumTo, ih]; rfl
theorem sumTo_swap (f : Nat → Nat → Int) (n m : Nat) : sumTo (fun i => sumTo (fun j => f i j) m) n = sumTo (fun j => sumTo (fun i => f i j) n) m := by
  induction n with
  | zero => simp only [sumTo]; rw [sumTo_zero]
  | succ n ih => rw [sumTo, ih]; simp only [sumTo]; rw [sumTo_add]

/-- the k-th place when place j is left out -/
def sk (j k : Nat) : Nat := if k < j then k else k + 1
/-- all places but one -/
theorem sumTo_skip (f : Nat → Int) (n j : Nat) (hj : j < n + 1) : sumTo (fun k => f (sk j k)) n = sumTo f (n + 1) - f j := by
  induction n generalizing j with
  | zero => obtain rfl : j = 0 := by omega
            simp [sumTo]
  | succ n ih =>
    rw [sumTo]
    by_cases h : j < n + 1
    · have e : sumTo f (n + 1 + 1) = sumTo f (n + 1) + f (n + 1) := rfl
      rw [ih j h, e, show sk j n = n + 1 from by unfold sk; rw [if_neg (by omega)]]
      omega
    · obtain rfl : j = n + 1 := by omega
      rw [sumTo_congr (g := f) (fun k hk => by show f (sk (n + 1) k) = f k; unfold sk; rw [if_pos (by omega)]), show sk (n + 1) n = n from by unfold sk; rw [if_pos (by omega)]]
      rw [sumTo, sumTo]
      omega
/-- the ordered pairs of unlike places, the other way round -/
theorem pairs_swap (F : Nat → Nat → Int) (n : Nat) : sumTo (fun j => sumTo (fun k => F j (sk j k)) n) (n + 1) = sumTo (fun j => sumTo (fun k => F (sk j k) j) n) (n + 1) := by
  rw [sumTo_congr (g := fun j => sumTo (fun q => F j q) (n + 1) - F j j) (fun j hj => sumTo_skip (fun q => F j q) n j hj)]
  rw [sumTo_congr (f := fun j => sumTo (fun k => F (sk j k) j) n) (g := fun j => sumTo (fun q => F q j) (n + 1) - F j j) (fun j hj => sumTo_skip (fun q => F q j) n j hj)]
  rw [sumTo_sub, sumTo_sub, sumTo_swap]

/-- the matrix without row r and column c -/
def minor (M : Nat → Nat → Int) (r c : Nat) : Nat → Nat → Int := fun a b => M (sk r a) (sk c b)
def pw (s : Int) : Nat → Int
  | 0 => 1
  | n + 1 => s * pw s n
/-- s = 1: the permanent; s = -1: the determinant -/
def G (s : Int) : Nat → (Nat → Nat → Int) → Int
  | 0, _ => 1
  | n + 1, M => sumTo (fun j => pw s j * M 0 j * G s n (minor M 0 j)) (n + 1)

theorem G_congr (s : Int) (n : Nat) : ∀ {M N : Nat → Nat → Int}, (∀ i j, i < n → j < n → M i j = N i j) → G s n M = G s n N := by
  induction n with
  | zero => intro M N _; rfl
  | succ n ih =>
    intro M N h
    rw [G, G]
    refine sumTo_congr fun j hj => ?_
    rw [h 0 j (by omega) hj, ih (M := minor M 0 j) (N := minor N 0 j)]
    intro a b ha hb
    exact h _ _ (by unfold sk; split <;> omega) (by unfold sk; split <;> omega)

/-- two rows and two columns left out -/
def del2 (r p q : Nat) (M : Nat → Nat → Int) : Nat → Nat → Int := fun a b => M (sk 0 (sk r a)) (if b < p ∧ b < q then b else if b + 1 < p ∨ b + 1 < q then b + 1 else b + 2)
theorem minor_minor1 (M : Nat → Nat → Int) (i j k : Nat) : minor (minor M 0 j) i k = del2 i j (sk j k) M := by
  funext a b
  simp only [minor, del2]
  congr 1
  unfold sk
  split <;> split <;> (repeat' split) <;> omega
theorem minor_minor2 (M : Nat → Nat → Int) (i q l : Nat) : minor (minor M (i + 1) q) 0 l = del2 i q (sk q l) M := by
  funext a b
  simp only [minor, del2]
  congr 1
  · unfold sk; (repeat' split) <;> omega
  · unfold sk; (repeat' split) <;> omega
theorem del2_comm (r p q : Nat) (M : Nat → Nat → Int) : del2 r p q M = del2 r q p M := by
  funext a b
  simp only [del2]
  congr 1
  (repeat' split) <;> omega

/-- the sign of an ordered pair -/
def sg2 (s : Int) (p q : Nat) : Int := pw s p * pw s (if q < p then q else q - 1)
theorem sg2_sk (s : Int) (j k : Nat) : sg2 s j (sk j k) = pw s j * pw s k := by
  unfold sg2 sk
  by_cases h : k < j
  · rw [if_pos h, if_pos h]
  · rw [if_neg h, if_neg (by omega), Nat.add_sub_cancel]
theorem pw_pred (s : Int) (hs : s * s = 1) (n : Nat) (h : 0 < n) : pw s (n - 1) = s * pw s n := by
  obtain ⟨m, rfl⟩ : ∃ m, n = m + 1 := ⟨n - 1, by omega⟩
  rw [Nat.add_sub_cancel, pw, ← Int.mul_assoc, hs, Int.one_mul]
theorem sg2_comm (s : Int) (hs : s * s = 1) (p q : Nat) (h : p ≠ q) : sg2 s q p = s * sg2 s p q := by
  unfold sg2
  rcases Nat.lt_or_gt_of_ne h with h | h
  · rw [if_pos h, if_neg (by omega), pw_pred s hs q (by omega)]
    generalize pw s p = x
    generalize pw s q = y
    have : s * (x * (s * y)) = (s * s) * (y * x) := by grind
    rw [this, hs, Int.one_mul]
  · rw [if_neg (by omega), if_pos h, pw_pred s hs p (by omega)]
    generalize pw s p = x
    generalize pw s q = y
    grind

theorem sk_ne (j k : Nat) : sk j k ≠ j := by unfold sk; split <;> omega

/-- one term of both expansions at once -/
def two (s : Int) (n i : Nat) (M : Nat → Nat → Int) (p q : Nat) : Int := sg2 s p q * M 0 p * M (i + 1) q * G s n (del2 i p q M)
/-- both expansions at once: by row 0 and row i + 1 -/
theorem G_two (s : Int) (hs : s * s = 1) (n i : Nat) (M : Nat → Nat → Int)
    (h : ∀ j, G s (n + 1) (minor M 0 j) = pw s i * sumTo (fun k => pw s k * minor M 0 j i k * G s n (minor (minor M 0 j) i k)) (n + 1)) :
    G s (n + 2) M = pw s i * sumTo (fun j => sumTo (fun k => two s n i M j (sk j k)) (n + 1)) (n + 2) := by
  rw [G, ← sumTo_mul]
  refine sumTo_congr fun j hj => ?_
  rw [h j]
  have e : pw s j * M 0 j * (pw s i * sumTo (fun k => pw s k * minor M 0 j i k * G s n (minor (minor M 0 j) i k)) (n + 1)) = pw s i * (pw s j * M 0 j * sumTo (fun k => pw s k * minor M 0 j i k * G s n (minor (minor M 0 j) i k)) (n + 1)) := by grind
  rw [e, ← sumTo_mul]
  congr 1
  refine sumTo_congr fun k hk => ?_
  unfold two
  rw [sg2_sk, minor_minor1]
  have e2 : minor M 0 j i k = M (i + 1) (sk j k) := by simp [minor, sk]
  rw [e2]
  grind

/-- the expansion by any row -/
theorem G_row (s : Int) (hs : s * s = 1) (i : Nat) : ∀ (n : Nat) (M : Nat → Nat → Int), i < n + 1 → G s (n + 1) M = pw s i * sumTo (fun j => pw s j * M i j * G s n (minor M i j)) (n + 1) := by
  induction i with
  | zero => intro n M _; rw [G, pw, Int.one_mul]
  | succ i ih =>
    intro n M hi
    obtain ⟨m, rfl⟩ : ∃ m, n = m + 1 := ⟨n - 1, by omega⟩
    rw [G_two s hs m i M (fun j => ih m (minor M 0 j) (by omega)), pairs_swap (two s m i M), pw]
    rw [Int.mul_comm s (pw s i), Int.mul_assoc]
    congr 1
    rw [← sumTo_mul]
    refine sumTo_congr fun q hq => ?_
    rw [G]
    have e : s * (pw s q * M (i + 1) q * sumTo (fun l => pw s l * minor M (i + 1) q 0 l * G s m (minor (minor M (i + 1) q) 0 l)) (m + 1)) = (s * pw s q * M (i + 1) q) * sumTo (fun l => pw s l * minor M (i + 1) q 0 l * G s m (minor (minor M (i + 1) q) 0 l)) (m + 1) := by grind
    rw [e, ← sumTo_mul]
    refine sumTo_congr fun l hl => ?_
    show sg2 s (sk q l) q * M 0 (sk q l) * M (i + 1) q * G s m (del2 i (sk q l) q M) = _
    rw [sg2_comm s hs q (sk q l) (fun h => sk_ne q l h.symm), sg2_sk, del2_comm, minor_minor2]
    have e2 : minor M (i + 1) q 0 l = M 0 (sk q l) := by simp [minor, sk]
    rw [e2]
    grind

/-- the expansion by the first column -/
theorem G_col0 (s : Int) (n : Nat) : ∀ (M : Nat → Nat → Int), G s (n + 1) M = sumTo (fun i => pw s i * M i 0 * G s n (minor M i 0)) (n + 1) := by
  induction n with
  | zero => intro M; simp [G, sumTo]
  | succ n ih =>
    intro M
    rw [G, sumTo_head _ (n + 1), sumTo_head (fun i => pw s i * M i 0 * G s (n + 1) (minor M i 0)) (n + 1)]
    congr 1
    rw [sumTo_congr (g := fun j => sumTo (fun i => (pw s (j + 1) * M 0 (j + 1)) * (pw s i * M (i + 1) 0 * G s n (minor (minor M 0 (j + 1)) i 0))) (n + 1)) (fun j hj => ?_)]
    rw [sumTo_congr (f := fun i => pw s (i + 1) * M (i + 1) 0 * G s (n + 1) (minor M (i + 1) 0)) (g := fun i => sumTo (fun j => (pw s (i + 1) * M (i + 1) 0) * (pw s j * M 0 (j + 1) * G s n (minor (minor M (i + 1) 0) 0 j))) (n + 1)) (fun i hi => ?_)]
    · rw [sumTo_swap]
      refine sumTo_congr fun i hi => sumTo_congr fun j hj => ?_
      have e : minor (minor M 0 (j + 1)) i 0 = minor (minor M (i + 1) 0) 0 j := by
        funext a b
        simp only [minor]
        congr 1 <;> (unfold sk; (repeat' split) <;> omega)
      rw [e, pw, pw]
      grind
    · rw [G, ← sumTo_mul]
      refine sumTo_congr fun j hj => ?_
      have e : minor M (i + 1) 0 0 j = M 0 (j + 1) := by simp [minor, sk]
      rw [e]
    · rw [ih, ← sumTo_mul]
      refine sumTo_congr fun i hi => ?_
      have e : minor M 0 (j + 1) i 0 = M (i + 1) 0 := by simp [minor, sk]
      rw [e]

/-- turned it is the same -/
theorem G_flip (s : Int) (n : Nat) : ∀ (M : Nat → Nat → Int), G s n (fun i j => M j i) = G s n M := by
  induction n with
  | zero => intro M; rfl
  | succ n ih =>
    intro M
    rw [G_col0 s n M, G]
    refine sumTo_congr fun j hj => ?_
    have : minor (fun i j => M j i) 0 j = fun i k => (minor M j 0) k i := rfl
    rw [this, ih (minor M j 0)]

/-- row i replaced -/
def setRow (M : Nat → Nat → Int) (i : Nat) (r : Nat → Int) : Nat → Nat → Int := fun a b => if a = i then r b else M a b
theorem minor_setRow (M : Nat → Nat → Int) (i : Nat) (r : Nat → Int) (j : Nat) : minor (setRow M i r) i j = minor M i j := by
  funext a b
  simp only [minor, setRow]
  rw [if_neg (sk_ne i a)]
/-- the value hangs on row i so -/
theorem G_setRow (s : Int) (hs : s * s = 1) (n i : Nat) (hi : i < n + 1) (M : Nat → Nat → Int) (r : Nat → Int) : G s (n + 1) (setRow M i r) = pw s i * sumTo (fun j => pw s j * r j * G s n (minor M i j)) (n + 1) := by
  rw [G_row s hs i n _ hi]
  congr 1
  refine sumTo_congr fun j hj => ?_
  rw [minor_setRow]
  simp [setRow]
theorem setRow_self (M : Nat → Nat → Int) (i : Nat) : setRow M i (M i) = M := by
  funext a b
  simp only [setRow]
  split
  · rename_i h; rw [h]
  · rfl
theorem G_lin (s : Int) (hs : s * s = 1) (n i : Nat) (hi : i < n) (M : Nat → Nat → Int) (x y : Int) (r t : Nat → Int) : G s n (setRow M i (fun j => x * r j + y * t j)) = x * G s n (setRow M i r) + y * G s n (setRow M i t) := by
  obtain ⟨m, rfl⟩ : ∃ m, n = m + 1 := ⟨n - 1, by omega⟩
  rw [G_setRow s hs m i hi, G_setRow s hs m i hi, G_setRow s hs m i hi]
  have e : x * (pw s i * sumTo (fun j => pw s j * r j * G s m (minor M i j)) (m + 1)) + y * (pw s i * sumTo (fun j => pw s j * t j * G s m (minor M i j)) (m + 1)) = pw s i * (x * sumTo (fun j => pw s j * r j * G s m (minor M i j)) (m + 1) + y * sumTo (fun j => pw s j * t j * G s m (minor M i j)) (m + 1)) := by grind
  rw [e]
  congr 1
  rw [← sumTo_mul, ← sumTo_mul, ← sumTo_add]
  refine sumTo_congr fun j hj => ?_
  grind
theorem G_scale (s : Int) (hs : s * s = 1) (n i : Nat) (hi : i < n) (M : Nat → Nat → Int) (x : Int) : G s n (setRow M i (fun j => x * M i j)) = x * G s n M := by
  have := G_lin s hs n i hi M x 0 (M i) (M i)
  rw [setRow_self] at this
  simp only [Int.zero_mul, Int.add_zero] at this
  exact this

/-- rows p and q exchanged -/
def swapR (M : Nat → Nat → Int) (p q : Nat) : Nat → Nat → Int := fun a b => M (if a = p then q else if a = q then p else a) b
theorem G_swap0 (s : Int) (hs : s * s = 1) (n i : Nat) (hi : i < n + 1) (M : Nat → Nat → Int) : G s (n + 2) (swapR M 0 (i + 1)) = s * G s (n + 2) M := by
  rw [G_two s hs n i M (fun j => G_row s hs i n (minor M 0 j) hi), G_two s hs n i (swapR M 0 (i + 1)) (fun j => G_row s hs i n (minor (swapR M 0 (i + 1)) 0 j) hi), pairs_swap (two s n i (swapR M 0 (i + 1)))]
  rw [Int.mul_comm s, Int.mul_assoc]
  congr 1
  rw [Int.mul_comm, ← sumTo_mul]
  refine sumTo_congr fun j hj => ?_
  rw [← sumTo_mul]
  refine sumTo_congr fun k hk => ?_
  show sg2 s (sk j k) j * swapR M 0 (i + 1) 0 (sk j k) * swapR M 0 (i + 1) (i + 1) j * G s n (del2 i (sk j k) j (swapR M 0 (i + 1))) = s * (sg2 s j (sk j k) * M 0 j * M (i + 1) (sk j k) * G s n (del2 i j (sk j k) M))
  have e1 : swapR M 0 (i + 1) 0 (sk j k) = M (i + 1) (sk j k) := by simp [swapR]
  have e2 : swapR M 0 (i + 1) (i + 1) j = M 0 j := by simp [swapR]
  have e3 : del2 i (sk j k) j (swapR M 0 (i + 1)) = del2 i j (sk j k) M := by
    rw [del2_comm]
    funext a b
    simp only [del2, swapR]
    rw [if_neg (by unfold sk; (repeat' split) <;> omega), if_neg (by unfold sk; (repeat' split) <;> omega)]
  rw [e1, e2, e3, sg2_comm s hs j (sk j k) (fun h => sk_ne j k h.symm)]
  grind
theorem G_swap (s : Int) (hs : s * s = 1) (p : Nat) : ∀ (n q : Nat) (M : Nat → Nat → Int), p < q → q < n → G s n (swapR M p q) = s * G s n M := by
  induction p with
  | zero =>
    intro n q M hp hq
    obtain ⟨i, rfl⟩ : ∃ i, q = i + 1 := ⟨q - 1, by omega⟩
    obtain ⟨m, rfl⟩ : ∃ m, n = m + 2 := ⟨n - 2, by omega⟩
    exact G_swap0 s hs m i (by omega) M
  | succ p ih =>
    intro n q M hp hq
    obtain ⟨i, rfl⟩ : ∃ i, q = i + 1 := ⟨q - 1, by omega⟩
    obtain ⟨m, rfl⟩ : ∃ m, n = m + 1 := ⟨n - 1, by omega⟩
    rw [G, G, ← sumTo_mul]
    refine sumTo_congr fun j hj => ?_
    have e : minor (swapR M (p + 1) (i + 1)) 0 j = swapR (minor M 0 j) p i := by
      funext a b
      simp only [minor, swapR]
      congr 1
      unfold sk
      (repeat' split) <;> omega
    rw [e, ih m i (minor M 0 j) (by omega) (by omega)]
    have e2 : swapR M (p + 1) (i + 1) 0 j = M 0 j := by simp [swapR]
    rw [e2]
    grind
theorem swapR_comm (M : Nat → Nat → Int) (p q : Nat) : swapR M p q = swapR M q p := by
  funext a b
  simp only [swapR]
  congr 1
  (repeat' split) <;> omega
theorem swapR_same (M : Nat → Nat → Int) (p : Nat) : swapR M p p = M := by
  funext a b
  simp only [swapR]
  split
  · rename_i h; rw [h]
  · rfl
theorem G_swap' (s : Int) (hs : s * s = 1) (n p q : Nat) (M : Nat → Nat → Int) (hp : p < n) (hq : q < n) (hpq : p ≠ q) : G s n (swapR M p q) = s * G s n M := by
  rcases Nat.lt_or_gt_of_ne hpq with h | h
  · exact G_swap s hs p n q M h hq
  · rw [swapR_comm]; exact G_swap s hs q n p M h hp

/-- the determinant: two like rows -/
theorem det_like (n p q : Nat) (M : Nat → Nat → Int) (hp : p < n) (hq : q < n) (hpq : p ≠ q) (h : ∀ b, M p b = M q b) : G (-1) n M = 0 := by
  have := G_swap' (-1) (by decide) n p q M hp hq hpq
  have e : swapR M p q = M := by
    funext a b
    simp only [swapR]
    split
    · rename_i g; rw [g, h]
    · split
      · rename_i g; rw [g, h]
      · rfl
  rw [e] at this
  omega
/-- so many times one row added to another one -/
theorem det_add (n i j : Nat) (M : Nat → Nat → Int) (k : Int) (hi : i < n) (hj : j < n) (hij : i ≠ j) : G (-1) n (setRow M i (fun b => M i b + k * M j b)) = G (-1) n M := by
  have h := G_lin (-1) (by decide) n i hi M 1 k (M i) (M j)
  rw [setRow_self, det_like n i j (setRow M i (M j)) hi hj hij (fun b => by simp only [setRow, if_true]; rw [if_neg (fun h => hij h.symm)])] at h
  simp only [Int.one_mul, Int.mul_zero, Int.add_zero] at h
  exact h

/-- a list of rows as a matrix -/
def fn (rows : List (List Int)) : Nat → Nat → Int := fun i j => (rows.getD i []).getD j 0
theorem fn_cut (rows : List (List Int)) (i j : Nat) : fn (cut rows i j) = minor (fn rows) i j := by
  funext a b
  simp only [fn, minor]
  rw [getD_cut, getD_eraseIdx]
  rfl
theorem sgn_pw (j : Nat) : sgn j = pw (-1) j := by
  induction j with
  | zero => rfl
  | succ j ih => rw [sgn_succ, pw, ih]; omega
theorem pw_one (j : Nat) : pw 1 j = 1 := by
  induction j with
  | zero => rfl
  | succ j ih => rw [pw, ih]; rfl
theorem detN_G (n : Nat) : ∀ (rows : List (List Int)), detN n rows = G (-1) n (fn rows) := by
  induction n with
  | zero => intro rows; rfl
  | succ n ih =>
    intro rows
    rw [detN, G]
    refine sumTo_congr fun j hj => ?_
    rw [ih, fn_cut, sgn_pw]
    rfl
theorem permN_G (n : Nat) : ∀ (rows : List (List Int)), permN n rows = G 1 n (fn rows) := by
  induction n with
  | zero => intro rows; rfl
  | succ n ih =>
    intro rows
    rw [permN, G]
    refine sumTo_congr fun j hj => ?_
    rw [ih, fn_cut, pw_one, Int.one_mul]
    rfl
theorem fn_set (rows : List (List Int)) (i : Nat) (r : List Int) (hi : i < rows.length) : fn (rows.set i r) = setRow (fn rows) i (fun b => r.getD b 0) := by
  funext a b
  simp only [fn, setRow]
  by_cases h : a = i
  · subst h
    rw [if_pos rfl]
    simp [List.getD, hi]
  · rw [if_neg h]
    simp [List.getD, List.getElem?_set_ne (fun e => h e.symm)]
/-- turned -/
theorem fn_flip (rows : List (List Int)) (n m : Nat) : ∀ i j, i < m → j < n → fn ((List.range m).map fun j => (List.range n).map fun i => (rows.getD i []).getD j 0) i j = fn rows j i := by
  intro i j hi hj
  simp [fn, List.getD, hi, hj]
end Go.Proofs.YtokneabcgmjhdaaGreatDoor

/- Two matrices of the call's own, written element by element; what a store makes of their entries. -/
namespace Go.Proofs.YtokneabcgmjhdaaGreatDoor
open Go.RowKit
set_option linter.unusedVariables false
set_option linter.unusedSimpArgs false

theorem grown_setCell (w : World) (g j : Nat) (u : Value) : w.grownBy (w.setCell ⟨g, j, none⟩ u) (some g) := by
  exact ⟨rfl, rfl, rfl, by simp, fun k _ hk => heap_setCell_other w ⟨g, j, none⟩ k u (fun e => hk (by rw [e]))⟩

/-- all blocks of the rows lie below Bb -/
def RowsBelow (Bb : Nat) (v : Value) (vs : List Value) : Prop := (∀ k, v.ownBlock = some k → k < Bb) ∧ ∀ i k, (vs.getD i undef).ownBlock = some k → k < Bb

theorem OwnRowsV.keptBy {w w' : World} {B : Nat} {v : Value} {vs : List Value} {rows : List (List Int)} (h : OwnRowsV w B v vs rows) {g : Nat} (hg : w.grownBy w' (some g)) (h1 : v.ownBlock ≠ some g) (h2 : ∀ i, i < rows.length → (vs.getD i undef).ownBlock ≠ some g) : OwnRowsV w' B v vs rows := by
  obtain ⟨hV, hl, hr, hd⟩ := h
  exact ⟨hV.kept hg (Or.inr h1), hl, fun i hi => (hr i hi).kept hg (Or.inr (h2 i hi)), hd⟩
theorem OwnRowsV.storeLow {w : World} {Bb : Nat} {v : Value} {vs : List Value} {rows : List (List Int)} (h : OwnRowsV w Bb v vs rows) {g : Nat} (hg : g < Bb) (j : Nat) (u : Value) : OwnRowsV (w.setCell ⟨g, j, none⟩ u) Bb v vs rows := by
  refine h.keptBy (grown_setCell w g j u) (fun e => ?_) (fun i hi e => ?_)
  · have := (h.1.lt g e).1; omega
  · have := ((h.2.2.1 i hi).lt g e).1; omega
theorem OwnRowsV.storeHigh {w : World} {B Bb : Nat} {v : Value} {vs : List Value} {rows : List (List Int)} (h : OwnRowsV w B v vs rows) (hb : RowsBelow Bb v vs) {g : Nat} (hg : Bb ≤ g) (j : Nat) (u : Value) : OwnRowsV (w.setCell ⟨g, j, none⟩ u) B v vs rows := by
  refine h.keptBy (grown_setCell w g j u) (fun e => ?_) (fun i hi e => ?_)
  · have := hb.1 g e; omega
  · have := hb.2 i g e; omega
theorem OwnRowsV.bound {w : World} {B : Nat} {v : Value} {vs : List Value} {rows : List (List Int)} (h : OwnRowsV w B v vs rows) : RowsBelow w.heap.size v vs := by
  refine ⟨fun k hk => (h.1.lt k hk).2, fun i k hk => ?_⟩
  by_cases hi : i < rows.length
  · exact ((h.2.2.1 i hi).lt k hk).2
  · have : vs.getD i undef = undef := by rw [List.getD_eq_getElem?_getD, List.getElem?_eq_none (by rw [h.2.1]; omega)]; rfl
    rw [this] at hk
    cases hk
theorem OwnRowsV.isRows {w : World} {B : Nat} {v : Value} {vs : List Value} {rows : List (List Int)} (h : OwnRowsV w B v vs rows) (h0 : 0 < rows.length) : ∃ G cap, v = .slice (some ⟨G, 0, none⟩) rows.length cap ∧ rows.length ≤ cap := by
  obtain ⟨a, cap, e, h1, h2, h3⟩ := h.1.cell
  obtain ⟨g, rfl, _⟩ := h3 0 (by rw [h.2.1]; exact h0)
  rw [h.2.1] at e h1
  exact ⟨g, cap, e, h1⟩

/-- one element stored -/
def putE (A : List (List Int)) (i j : Nat) (x : Int) : List (List Int) := A.set i ((A.getD i []).set j x)
theorem put_sq {n : Nat} {A : List (List Int)} (h : Sq n A) (i j : Nat) (x : Int) : Sq n (putE A i j x) := by
  refine ⟨by unfold putE; rw [List.length_set]; exact h.1, fun k hk => ?_⟩
  unfold putE
  by_cases hik : i = k
  · subst hik
    rw [getD_set_eq _ _ _ _ (by rw [h.1]; exact hk), List.length_set]
    exact h.2 i hk
  · rw [getD_set_ne _ _ _ _ _ hik]; exact h.2 k hk
theorem fn_put {n : Nat} {A : List (List Int)} (h : Sq n A) {i j : Nat} (hi : i < n) (hj : j < n) (x : Int) (a b : Nat) : fn (putE A i j x) a b = if a = i ∧ b = j then x else fn A a b := by
  unfold fn putE
  by_cases h1 : i = a
  · subst h1
    rw [getD_set_eq _ _ _ _ (by rw [h.1]; exact hi)]
    by_cases h2 : j = b
    · subst h2
      rw [getD_set_eq _ _ _ _ (by rw [h.2 i hi]; exact hj), if_pos ⟨rfl, rfl⟩]
    · rw [getD_set_ne _ _ _ _ _ h2, if_neg (fun h => h2 h.2.symm)]
  · rw [getD_set_ne _ _ _ _ _ h1, if_neg (fun h => h1 h.1.symm)]

theorem OwnRowsV.read {w : World} {B G n cap : Nat} {vs : List Value} {A : List (List Int)} (h : OwnRowsV w B (.slice (some ⟨G, 0, none⟩) n cap) vs A) : RowsAt w (some ⟨G, 0, none⟩) A.length A := by
  obtain ⟨a2, cap2, e2, hc1, hc2, hra⟩ := h.rows.rowsAt
  simp only [Value.slice.injEq] at e2
  rw [e2.1]
  exact hra
/-- one element: its row's header, its cell, and what a store makes -/
theorem OwnRowsV.at {w : World} {B G n cap : Nat} {vs : List Value} {A : List (List Int)} (h : OwnRowsV w B (.slice (some ⟨G, 0, none⟩) n cap) vs A) (hs : Sq n A) {i j : Nat} (hi : i < n) (hj : j < n) :
    ∃ g rc, w.cell? ⟨G, i, none⟩ = some (.slice (some ⟨g, 0, none⟩) n rc) ∧ B ≤ g ∧ g < w.heap.size ∧ g ≠ G ∧ vs.getD i undef = .slice (some ⟨g, 0, none⟩) n rc ∧ w.frozen? ⟨g, j, none⟩ = false ∧ w.cell? ⟨g, j, none⟩ = some (.int .i64 (fn A i j)) ∧
      ∀ x, OwnRowsV (w.setCell ⟨g, j, none⟩ (.int .i64 x)) B (.slice (some ⟨G, 0, none⟩) n cap) vs (putE A i j x) := by
  have hi' : i < A.length := by rw [hs.1]; exact hi
  obtain ⟨g, rc, e, h1, h2, h3, h4, h5⟩ := h.elem hi' (by rw [hs.2 i hi]; omega)
  rw [hs.2 i hi] at e
  refine ⟨g, rc, by rw [h.isCell hi', e], h1, h2, h.ne0 hi' e, e, h3 j, ?_, fun x => h5 j x⟩
  rw [h4 j (by rw [hs.2 i hi]; exact hj)]
  rfl

/-- a store into the first of two matrices, and a draw -/
theorem store_first {w wr : World} {B Bb Ga n capa g j : Nat} {vb : Value} {vsa vsb : List Value} {A1 C : List (List Int)} {u : Value} (hB : B ≤ wr.heap.size) (hC : OwnRowsV wr Bb vb vsb C) (hbd : RowsBelow Bb (.slice (some ⟨Ga, 0, none⟩) n capa) vsa)
    (hst : OwnRowsV (wr.setCell ⟨g, j, none⟩ u) B (.slice (some ⟨Ga, 0, none⟩) n capa) vsa A1) {i : Nat} {rc : Nat} (he : vsa.getD i undef = .slice (some ⟨g, 0, none⟩) n rc) (hg : B ≤ g) (hbel : Below B w wr) :
    OwnRowsV (wr.setCell ⟨g, j, none⟩ u).drew B (.slice (some ⟨Ga, 0, none⟩) n capa) vsa A1 ∧ OwnRowsV (wr.setCell ⟨g, j, none⟩ u).drew Bb vb vsb C ∧ Below B w (wr.setCell ⟨g, j, none⟩ u).drew := by
  have hlt : g < Bb := hbd.2 i g (by rw [he]; rfl)
  exact ⟨hst.call Cls.start, (hC.storeLow hlt j u).call Cls.start, (hbel.setCell (p := ⟨g, j, none⟩) hg u).trans Cls.start⟩
/-- a store into the second, and a draw -/
theorem store_second {w wr : World} {B Bb Ga n capa g j : Nat} {vb : Value} {vsa vsb : List Value} {A C1 : List (List Int)} {u : Value} (hB : B ≤ Bb) (hA : OwnRowsV wr B (.slice (some ⟨Ga, 0, none⟩) n capa) vsa A) (hbd : RowsBelow Bb (.slice (some ⟨Ga, 0, none⟩) n capa) vsa)
    (hst : OwnRowsV (wr.setCell ⟨g, j, none⟩ u) Bb vb vsb C1) (hg : Bb ≤ g) (hbel : Below B w wr) :
    OwnRowsV (wr.setCell ⟨g, j, none⟩ u).drew B (.slice (some ⟨Ga, 0, none⟩) n capa) vsa A ∧ OwnRowsV (wr.setCell ⟨g, j, none⟩ u).drew Bb vb vsb C1 ∧ Below B w (wr.setCell ⟨g, j, none⟩ u).drew :=
  ⟨(hA.storeHigh hbd hg j u).call Cls.start, hst.call Cls.start, (hbel.setCell (p := ⟨g, j, none⟩) (Nat.le_trans hB hg) u).trans Cls.start⟩
end Go.Proofs.YtokneabcgmjhdaaGreatDoor

/- Plain law: which square matrices are right. No program in sight. -/
namespace Go.Proofs.YtokneabcgmjhdaaGreatDoor
open Go.RowKit
set_option linter.unusedVariables false
set_option linter.unusedSimpArgs false

theorem sqErr_rows {rows : List (List Int)} {n : Nat} {most lo hi : Int} (h : Sq n rows) (h0 : 0 < n) (hm : (n : Int) ≤ most) : sqErr rows most lo hi = rowsErr n lo hi rows := by
  have h1 := h.2 0 h0
  have hm0 : matErr rows most lo hi = rowsErr n lo hi rows := by
    unfold matErr
    rw [h.1, h1, if_neg (by omega), if_neg (by omega)]
  unfold sqErr
  rw [hm0, h.1, h1]
  by_cases h2 : rowsErr n lo hi rows = 0
  · rw [if_neg (by omega), if_neg (by omega), h2]
  · rw [if_pos h2]
theorem rowsErr_or (L : Nat) (lo hi : Int) : ∀ (rows : List (List Int)), (∀ r ∈ rows, r.length = L) → rowsErr L lo hi rows = 0 ∨ rowsErr L lo hi rows = 1 := by
  intro rows
  induction rows with
  | nil => intro _; left; rfl
  | cons r rs ih =>
    intro h
    rw [rowsErr, if_neg (by simp [h r (by simp)])]
    by_cases h1 : anyOut lo hi r = true
    · rw [if_pos h1]; right; rfl
    · rw [if_neg h1]; exact ih (fun r hr => h r (by simp [hr]))
theorem Sq.mem {rows : List (List Int)} {n : Nat} (h : Sq n rows) : ∀ r ∈ rows, r.length = n := by
  intro r hr
  obtain ⟨i, hi, rfl⟩ := List.mem_iff_getElem.1 hr
  have := h.2 i (by rw [← h.1]; exact hi)
  simpa [List.getD, hi] using this
/-- a square matrix is right, or a number of it is not -/
theorem sqErr_or {rows : List (List Int)} {n : Nat} {most lo hi : Int} (h : Sq n rows) (h0 : 0 < n) (hm : (n : Int) ≤ most) : sqErr rows most lo hi = 0 ∨ sqErr rows most lo hi = 1 := by
  rw [sqErr_rows h h0 hm]
  exact rowsErr_or n lo hi rows h.mem
theorem sqErr_of {rows : List (List Int)} {n : Nat} {most B : Int} (h : Sq n rows) (h0 : 0 < n) (hm : (n : Int) ≤ most) (he : Ent B rows) : sqErr rows most (-B) B = 0 := by
  rw [sqErr_rows h h0 hm]
  refine rowsErr_zero fun i hi => ⟨h.2 i (by rw [← h.1]; exact hi), ?_⟩
  refine Bool.eq_false_iff.2 fun ha => ?_
  obtain ⟨x, hx, hb⟩ := List.any_eq_true.1 ha
  obtain ⟨j, hj, rfl⟩ := List.mem_iff_getElem.1 hx
  have := he i j
  rw [show (rows.getD i []).getD j 0 = (rows.getD i [])[j] by simp [List.getD] at hj ⊢; simp [hj]] at this
  generalize (rows.getD i [])[j] = y at *
  simp [outB] at hb
  omega
end Go.Proofs.YtokneabcgmjhdaaGreatDoor

/- Contract of the reference's Flip. -/
namespace Go.Proofs.YtokneabcgmjhdaaGreatDoor
open Go.RowKit
set_option linter.unusedVariables false
set_option linter.unusedSimpArgs false

/-- column j of the first k rows -/
def colTo (rows : List (List Int)) (j k : Nat) : List Int := (List.range k).map fun i => (rows.getD i []).getD j 0
/-- the first k columns -/
def flipTo (rows : List (List Int)) (n k : Nat) : List (List Int) := (List.range k).map fun j => colTo rows j n
theorem colTo_succ (rows : List (List Int)) (j k : Nat) : colTo rows j (k + 1) = colTo rows j k ++ [(rows.getD k []).getD j 0] := by simp [colTo, List.range_succ]
theorem flipTo_succ (rows : List (List Int)) (n k : Nat) : flipTo rows n (k + 1) = flipTo rows n k ++ [colTo rows k n] := by simp [flipTo, List.range_succ]
theorem colTo_len (rows : List (List Int)) (j k : Nat) : (colTo rows j k).length = k := by simp [colTo]
theorem flipTo_len (rows : List (List Int)) (n k : Nat) : (flipTo rows n k).length = k := by simp [flipTo]

end Go.Proofs.YtokneabcgmjhdaaGreatDoor

/- Plain law: matrices that are turned, and whose rows are exchanged. No program in sight. -/
namespace Go.Proofs.YtokneabcgmjhdaaGreatDoor
open Go.RowKit
set_option linter.unusedVariables false
set_option linter.unusedSimpArgs false

/-- p and q exchanged -/
def sw (p q a : Nat) : Nat := if a = p then q else if a = q then p else a
theorem sw_lt {n p q a : Nat} (hp : p < n) (hq : q < n) (ha : a < n) : sw p q a < n := by unfold sw; split; omega; split <;> omega
theorem ent_of {B : Int} {n : Nat} {A : List (List Int)} (hB : 0 ≤ B) (hs : Sq n A) (h : ∀ i j, i < n → j < n → -B ≤ fn A i j ∧ fn A i j ≤ B) : Ent B A := by
  intro i j
  by_cases hi : i < n
  · by_cases hj : j < n
    · exact h i j hi hj
    · have : (A.getD i []).getD j 0 = 0 := by
        have := hs.2 i hi
        rw [List.getD_eq_getElem?_getD, List.getElem?_eq_none (by omega)]
        rfl
      rw [this]; omega
  · have : A.getD i [] = [] := by rw [List.getD_eq_getElem?_getD, List.getElem?_eq_none (by rw [hs.1]; omega)]; rfl
    rw [this]
    simp
    omega
theorem sq_flip {n : Nat} (A : List (List Int)) : Sq n (flipTo A n n) := by
  refine ⟨flipTo_len _ _ _, fun i hi => ?_⟩
  have : (flipTo A n n).getD i [] = colTo A i n := by simp [flipTo, List.getD, hi]
  rw [this, colTo_len]
theorem fn_flipTo {n : Nat} (A : List (List Int)) {i j : Nat} (hi : i < n) (hj : j < n) : fn (flipTo A n n) i j = fn A j i := by
  simp [fn, flipTo, colTo, List.getD, hi, hj]
theorem sq_set {n : Nat} {A : List (List Int)} (h : Sq n A) {i : Nat} {r : List Int} (hr : r.length = n) : Sq n (A.set i r) := by
  refine ⟨by rw [List.length_set]; exact h.1, fun k hk => ?_⟩
  by_cases hik : i = k
  · subst hik
    rw [getD_set_eq _ _ _ _ (by rw [h.1]; exact hk)]; exact hr
  · rw [getD_set_ne _ _ _ _ _ hik]; exact h.2 k hk
/-- rows i and j exchanged -/
def swapL (A : List (List Int)) (i j : Nat) : List (List Int) := (A.set i (A.getD j [])).set j (A.getD i [])
theorem sq_swap {n : Nat} {A : List (List Int)} (h : Sq n A) {i j : Nat} (hi : i < n) (hj : j < n) : Sq n (swapL A i j) := sq_set (sq_set h (h.2 j hj)) (h.2 i hi)
theorem fn_swapL {n : Nat} {A : List (List Int)} (h : Sq n A) {i j : Nat} (hi : i < n) (hj : j < n) (a b : Nat) : fn (swapL A i j) a b = fn A (sw i j a) b := by
  unfold fn swapL sw
  by_cases h1 : j = a
  · subst h1
    rw [getD_set_eq _ _ _ _ (by rw [List.length_set, h.1]; exact hj)]
    by_cases h2 : j = i
    · rw [if_pos h2, h2]
    · rw [if_neg h2, if_pos rfl]
  · rw [getD_set_ne _ _ _ _ _ h1]
    by_cases h2 : i = a
    · subst h2
      rw [getD_set_eq _ _ _ _ (by rw [h.1]; exact hi), if_pos rfl]
    · rw [getD_set_ne _ _ _ _ _ h2, if_neg (fun h => h2 h.symm), if_neg (fun h => h1 h.symm)]

end Go.Proofs.YtokneabcgmjhdaaGreatDoor

/- Plain law: the sums of rows, with whole numbers before them; what does not change them; the normal form. No program in sight. -/
namespace Go.Proofs.YtokneabcgmjhdaaGreatDoor
open Go.RowKit
set_option linter.unusedVariables false
set_option linter.unusedSimpArgs false

/-- x is a sum of the rows of M, each so many times -/
def Lat (n : Nat) (M : Nat → Nat → Int) (x : Nat → Int) : Prop := ∃ c : Nat → Int, ∀ j, j < n → x j = sumTo (fun i => c i * M i j) n

theorem sum_one (n i : Nat) (hi : i < n) (f : Nat → Int) (hf : ∀ k, k < n → k ≠ i → f k = 0) : sumTo f n = f i := by
  induction n with
  | zero => omega
  | succ n ih =>
    rw [sumTo]
    by_cases h : i = n
    · subst h
      have : sumTo f i = sumTo (fun _ => 0) i := sumTo_congr fun k hk => hf k (by omega) (by omega)
      rw [this, sumTo_zero]; omega
    · rw [ih (by omega) (fun k hk hne => hf k (by omega) hne), hf n (by omega) (by omega)]; omega
theorem lat_row {n i : Nat} (M : Nat → Nat → Int) (hi : i < n) : Lat n M (M i) := by
  refine ⟨fun k => if k = i then 1 else 0, fun j hj => ?_⟩
  rw [sum_one n i hi _ (fun k hk hne => by simp [hne])]
  simp
theorem lat_congr {n : Nat} {M N : Nat → Nat → Int} {x y : Nat → Int} (h : Lat n M x) (hM : ∀ i j, i < n → j < n → M i j = N i j) (hx : ∀ j, j < n → x j = y j) : Lat n N y := by
  obtain ⟨c, hc⟩ := h
  exact ⟨c, fun j hj => by rw [← hx j hj, hc j hj]; exact sumTo_congr fun i hi => by rw [hM i j hi hj]⟩
theorem lat_lin {n : Nat} {M : Nat → Nat → Int} {x y : Nat → Int} (h : Lat n M x) (k : Lat n M y) (a b : Int) : Lat n M (fun j => a * x j + b * y j) := by
  obtain ⟨c, hc⟩ := h
  obtain ⟨d, hd⟩ := k
  refine ⟨fun i => a * c i + b * d i, fun j hj => ?_⟩
  show a * x j + b * y j = _
  rw [hc j hj, hd j hj, ← sumTo_mul, ← sumTo_mul, ← sumTo_add]
  exact sumTo_congr fun i hi => by grind
theorem lat_zero (n : Nat) (M : Nat → Nat → Int) : Lat n M (fun _ => 0) := ⟨fun _ => 0, fun j hj => by simp [sumTo_zero]⟩
theorem lat_sum {n : Nat} {M N : Nat → Nat → Int} (h : ∀ i, i < n → Lat n M (N i)) (c : Nat → Int) : ∀ k, k ≤ n → Lat n M (fun j => sumTo (fun i => c i * N i j) k) := by
  intro k
  induction k with
  | zero => intro _; exact lat_zero n M
  | succ k ih =>
    intro hk
    have := lat_lin (ih (by omega)) (h k (by omega)) 1 (c k)
    refine lat_congr this (fun _ _ _ _ => rfl) (fun j hj => ?_)
    rw [sumTo]; omega
theorem lat_sub {n : Nat} {M N : Nat → Nat → Int} (h : ∀ i, i < n → Lat n M (N i)) {x : Nat → Int} (hx : Lat n N x) : Lat n M x := by
  obtain ⟨c, hc⟩ := hx
  exact lat_congr (lat_sum h c n (Nat.le_refl n)) (fun _ _ _ _ => rfl) (fun j hj => (hc j hj).symm)

/-- both have the same sums, and the same determinant but for its sign -/
def Like (n : Nat) (M N : Nat → Nat → Int) : Prop := (∀ x, Lat n M x ↔ Lat n N x) ∧ (G (-1) n N = G (-1) n M ∨ G (-1) n N = -G (-1) n M)
theorem Like.refl (n : Nat) (M : Nat → Nat → Int) : Like n M M := ⟨fun _ => Iff.rfl, Or.inl rfl⟩
theorem Like.trans {n : Nat} {M N K : Nat → Nat → Int} (h : Like n M N) (k : Like n N K) : Like n M K := by
  refine ⟨fun x => (h.1 x).trans (k.1 x), ?_⟩
  rcases h.2 with h2 | h2 <;> rcases k.2 with k2 | k2 <;> rw [k2, h2]
  · exact Or.inl rfl
  · exact Or.inr rfl
  · exact Or.inr rfl
  · exact Or.inl (by omega)
theorem Like.symm {n : Nat} {M N : Nat → Nat → Int} (h : Like n M N) : Like n N M := by
  refine ⟨fun x => (h.1 x).symm, ?_⟩
  rcases h.2 with h2 | h2 <;> rw [h2]
  · exact Or.inl rfl
  · exact Or.inr (by omega)
theorem like_congr {n : Nat} {M N : Nat → Nat → Int} (h : ∀ i j, i < n → j < n → M i j = N i j) : Like n M N :=
  ⟨fun x => ⟨fun k => lat_congr k h (fun _ _ => rfl), fun k => lat_congr k (fun i j hi hj => (h i j hi hj).symm) (fun _ _ => rfl)⟩, Or.inl (G_congr (-1) n (fun i j hi hj => (h i j hi hj).symm))⟩
theorem neg1 : (-1 : Int) * -1 = 1 := by decide
/-- row i less so many times row k -/
theorem like_less {n i k : Nat} (hi : i < n) (hk : k < n) (hik : i ≠ k) (M : Nat → Nat → Int) (t : Int) : Like n M (setRow M i (fun j => M i j - t * M k j)) := by
  have hN : ∀ a, setRow M i (fun j => M i j - t * M k j) a = if a = i then (fun j => M i j - t * M k j) else M a := fun a => by funext b; simp only [setRow]; split <;> rfl
  refine ⟨fun x => ⟨lat_sub fun a ha => ?_, lat_sub fun a ha => ?_⟩, Or.inl ?_⟩
  · by_cases h : a = i
    · subst h
      have h1 := lat_row (setRow M a (fun j => M a j - t * M k j)) ha
      have h2 := lat_row (setRow M a (fun j => M a j - t * M k j)) hk
      refine lat_congr (lat_lin h1 h2 1 t) (fun _ _ _ _ => rfl) (fun j hj => ?_)
      rw [hN, hN, if_pos rfl, if_neg (fun h => hik h.symm)]; try simp only []
      omega
    · have := lat_row (setRow M i (fun j => M i j - t * M k j)) ha
      rw [hN, if_neg h] at this
      exact this
  · by_cases h : a = i
    · subst h
      refine lat_congr (lat_lin (lat_row M ha) (lat_row M hk) 1 (-t)) (fun _ _ _ _ => rfl) (fun j hj => ?_)
      rw [hN, if_pos rfl]; try simp only []
      grind
    · rw [hN, if_neg h]; exact lat_row M ha
  · have := det_add n i k M (-t) hi hk hik
    rw [← this]
    refine congrArg (fun r => G (-1) n (setRow M i r)) ?_
    funext j
    grind
/-- a row below 0 -/
theorem like_neg {n i : Nat} (hi : i < n) (M : Nat → Nat → Int) : Like n M (setRow M i (fun j => -1 * M i j)) := by
  have hN : ∀ a, setRow M i (fun j => -1 * M i j) a = if a = i then (fun j => -1 * M i j) else M a := fun a => by funext b; simp only [setRow]; split <;> rfl
  refine ⟨fun x => ⟨lat_sub fun a ha => ?_, lat_sub fun a ha => ?_⟩, Or.inr ?_⟩
  · by_cases h : a = i
    · subst h
      have h1 := lat_row (setRow M a (fun j => -1 * M a j)) ha
      refine lat_congr (lat_lin h1 h1 (-1) 0) (fun _ _ _ _ => rfl) (fun j hj => ?_)
      rw [hN, if_pos rfl]; try simp only []
      omega
    · have := lat_row (setRow M i (fun j => -1 * M i j)) ha
      rw [hN, if_neg h] at this
      exact this
  · by_cases h : a = i
    · subst h
      refine lat_congr (lat_lin (lat_row M ha) (lat_row M ha) (-1) 0) (fun _ _ _ _ => rfl) (fun j hj => ?_)
      rw [hN, if_pos rfl]; try simp only []
      omega
    · rw [hN, if_neg h]; exact lat_row M ha
  · rw [G_scale (-1) neg1 n i hi M (-1)]; omega
theorem sw_sw (p q a : Nat) : sw p q (sw p q a) = a := by
  unfold sw
  by_cases h1 : a = p
  · subst h1
    rw [if_pos rfl]
    by_cases h2 : q = a
    · rw [if_pos h2, h2]
    · rw [if_neg h2, if_pos rfl]
  · rw [if_neg h1]
    by_cases h2 : a = q
    · rw [if_pos h2, if_pos rfl, h2]
    · rw [if_neg h2, if_neg h1, if_neg h2]
/-- two rows exchanged -/
theorem like_swap {n p q : Nat} (hp : p < n) (hq : q < n) (hpq : p ≠ q) (M : Nat → Nat → Int) : Like n M (swapR M p q) := by
  have hlt : ∀ a, a < n → sw p q a < n := fun a ha => by unfold sw; split; exact hq; split; exact hp; exact ha
  refine ⟨fun x => ⟨lat_sub fun a ha => ?_, lat_sub fun a ha => ?_⟩, Or.inr ?_⟩
  · have := lat_row (swapR M p q) (hlt a ha)
    have e : swapR M p q (sw p q a) = M a := by
      have : swapR M p q (sw p q a) = M (sw p q (sw p q a)) := rfl
      rw [this, sw_sw]
    rw [e] at this
    exact this
  · have e : swapR M p q a = M (sw p q a) := rfl
    rw [e]
    exact lat_row M (hlt a ha)
  · rw [G_swap' (-1) neg1 n p q M hp hq hpq]; omega
end Go.Proofs.YtokneabcgmjhdaaGreatDoor

/- Plain law: elimination in the prime field of 9973. No program in sight. -/
namespace Go.Proofs.YtokneabcgmjhdaaGreatDoor
open Go.RowKit
set_option linter.unusedVariables false
set_option linter.unusedSimpArgs false

theorem dvd_sumTo {d : Int} {f : Nat → Int} : ∀ n, (∀ i, i < n → d ∣ f i) → d ∣ sumTo f n
  | 0, _ => Int.dvd_zero _
  | n + 1, h => by rw [sumTo]; exact Int.dvd_add (dvd_sumTo n fun i hi => h i (by omega)) (h n (by omega))
theorem G_mod (s d : Int) (n : Nat) : ∀ {M N : Nat → Nat → Int}, (∀ i j, i < n → j < n → d ∣ M i j - N i j) → d ∣ G s n M - G s n N := by
  induction n with
  | zero => intro M N _; simp [G]
  | succ n ih =>
    intro M N h
    rw [G, G, ← sumTo_sub]
    refine dvd_sumTo _ fun j hj => ?_
    have h1 := h 0 j (by omega) hj
    have h2 := ih (M := minor M 0 j) (N := minor N 0 j) (fun a b ha hb => h _ _ (by unfold sk; split <;> omega) (by unfold sk; split <;> omega))
    obtain ⟨u, hu⟩ := h1
    obtain ⟨v, hv⟩ := h2
    refine ⟨pw s j * (u * G s n (minor M 0 j) + N 0 j * v), ?_⟩
    have e1 : M 0 j = N 0 j + d * u := by omega
    have e2 : G s n (minor M 0 j) = G s n (minor N 0 j) + d * v := by omega
    rw [e1, e2]
    grind
def subM (c : Nat) (M : Nat → Nat → Int) : Nat → Nat → Int := fun a b => M (c + a) (c + b)
theorem G_first0 (n : Nat) (M : Nat → Nat → Int) (h : ∀ i, 0 < i → i < n + 1 → M i 0 = 0) : G (-1) (n + 1) M = M 0 0 * G (-1) n (fun a b => M (a + 1) (b + 1)) := by
  rw [G_col0, sum_one (n + 1) 0 (by omega) _ (fun k hk h0 => by rw [h k (by omega) hk]; simp)]
  have e : minor M 0 0 = fun a b => M (a + 1) (b + 1) := by funext a b; simp [minor, sk]
  rw [e]
  simp [pw]
theorem G_col_zero (n : Nat) (M : Nat → Nat → Int) (h : ∀ i, i < n + 1 → M i 0 = 0) : G (-1) (n + 1) M = 0 := by
  rw [G_first0 n M (fun i _ hi => h i hi), h 0 (by omega), Int.zero_mul]

def powOk (a : Nat) : Bool := a == 0 || decide (9973 ≤ a) || a * (a ^ 9971 % 9973) % 9973 == 1
def chkP (lo : Nat) : Nat → Bool
  | 0 => powOk lo
  | k + 1 => chkP lo k && chkP (lo + 2 ^ k) k
theorem chkP_all (k : Nat) : ∀ lo, chkP lo k = true → ∀ a, lo ≤ a → a < lo + 2 ^ k → powOk a = true := by
  induction k with
  | zero => intro lo h a h1 h2; have : a = lo := by simp at h2; omega
            rw [this]; exact h
  | succ k ih =>
    intro lo h a h1 h2
    rw [chkP, Bool.and_eq_true] at h
    by_cases h3 : a < lo + 2 ^ k
    · exact ih lo h.1 a h1 h3
    · exact ih _ h.2 a (by omega) (by rw [Nat.pow_succ] at h2; omega)
theorem chkP_true : chkP 0 14 = true := by decide +kernel
theorem over_ok {a : Nat} (h0 : 0 < a) (h1 : a < 9973) : a * (a ^ 9971 % 9973) % 9973 = 1 := by
  have := chkP_all 14 0 chkP_true a (by omega) (by omega)
  unfold powOk at this
  rw [Bool.or_eq_true, Bool.or_eq_true] at this
  rcases this with (h | h) | h
  · have := eq_of_beq h; omega
  · have := of_decide_eq_true h; omega
  · exact eq_of_beq h

structure DSt (D : Int) (n c : Nat) (out : Int) (T : List (List Int)) : Prop where
  rng : ∀ i j, i < n → j < n → 0 ≤ fn T i j ∧ fn T i j < 9973
  o0 : 0 ≤ out
  o1 : out < 9973
  val : (9973 : Int) ∣ out * G (-1) (n - c) (subM c (fn T)) - D
theorem DSt.start {n : Nat} {rows : List (List Int)} (h : ∀ i j, i < n → j < n → 0 ≤ fn rows i j ∧ fn rows i j < 9973) : DSt (G (-1) n (fn rows)) n 0 1 rows := by
  refine ⟨h, by omega, by omega, ?_⟩
  have e : subM 0 (fn rows) = fn rows := by funext a b; simp [subM]
  rw [e]
  simp
theorem DSt.fin {D : Int} {n : Nat} {out : Int} {T : List (List Int)} (h : DSt D n n out T) : out = D % 9973 := by
  have hv := h.val
  rw [Nat.sub_self, G, Int.mul_one] at hv
  have h0 := h.o0
  have h1 := h.o1
  omega
theorem DSt.stop {D : Int} {n c : Nat} {out : Int} {T : List (List Int)} (h : DSt D n c out T) (hc : c < n) (hz : ∀ k, c ≤ k → k < n → fn T k c = 0) : D % 9973 = 0 := by
  have hv := h.val
  obtain ⟨m, hm⟩ : ∃ m, n - c = m + 1 := ⟨n - c - 1, by omega⟩
  rw [hm, G_col_zero m _ (fun i hi => hz (c + i) (by omega) (by omega)), Int.mul_zero] at hv
  omega
theorem DSt.swap {D : Int} {n c k : Nat} {out : Int} {T : List (List Int)} (h : DSt D n c out T) (hs : Sq n T) (hc : c < n) (hk : c < k) (hk' : k < n) : DSt D n c ((-out) % 9973) (swapL T c k) := by
  have hsw : ∀ a, a < n → sw c k a < n := fun a ha => sw_lt hc hk' ha
  refine ⟨fun i j hi hj => by rw [fn_swapL hs hc hk']; exact h.rng _ _ (hsw i hi) hj, by omega, by omega, ?_⟩
  have e : subM c (fn (swapL T c k)) = swapR (subM c (fn T)) 0 (k - c) := by
    funext a b
    show fn (swapL T c k) (c + a) (c + b) = fn T (c + (if a = 0 then k - c else if a = k - c then 0 else a)) (c + b)
    rw [fn_swapL hs hc hk']
    unfold sw
    by_cases h1 : a = 0
    · subst h1; rw [if_pos (by omega), if_pos rfl]; congr 1; omega
    · rw [if_neg (show ¬ c + a = c by omega), if_neg h1]
      by_cases h2 : a = k - c
      · rw [if_pos (show c + a = k by omega), if_pos h2]; congr 1
      · rw [if_neg (show ¬ c + a = k by omega), if_neg h2]
  rw [e, G_swap' (-1) (by decide) (n - c) 0 (k - c) _ (by omega) (by omega) (by omega)]
  have hv := h.val
  generalize G (-1) (n - c) (subM c (fn T)) = g at *
  obtain ⟨q, hq⟩ : ∃ q, (-out) % 9973 = -out + 9973 * q := ⟨-((-out) / 9973), by omega⟩
  rw [hq]
  obtain ⟨t, ht⟩ := hv
  exact ⟨t - q * g, by grind⟩

/-- the rows from c + 1 to k are done -/
structure EIn (D : Int) (n c k : Nat) (out piv : Int) (T : List (List Int)) : Prop where
  rng : ∀ i j, i < n → j < n → 0 ≤ fn T i j ∧ fn T i j < 9973
  o0 : 0 ≤ out
  o1 : out < 9973
  val : (9973 : Int) ∣ out * G (-1) (n - c) (subM c (fn T)) - D
  top : fn T c c = piv
  zero : ∀ i, c < i → i < k → fn T i c = 0
theorem EIn.start {D : Int} {n c : Nat} {out : Int} {T : List (List Int)} (h : DSt D n c out T) : EIn D n c (c + 1) out (fn T c c) T := ⟨h.rng, h.o0, h.o1, h.val, rfl, fun i h1 h2 => by omega⟩
theorem EIn.next {D : Int} {n c : Nat} {out piv : Int} {T : List (List Int)} (h : EIn D n c n out piv T) (hc : c < n) : DSt D n (c + 1) ((out * piv) % 9973) T := by
  refine ⟨h.rng, by omega, by omega, ?_⟩
  have hv := h.val
  obtain ⟨m, hm⟩ : ∃ m, n - c = m + 1 := ⟨n - c - 1, by omega⟩
  rw [hm, G_first0 m _ (fun i h0 hi => by show fn T (c + i) (c + 0) = 0; exact h.zero (c + i) (by omega) (by omega))] at hv
  have e1 : subM c (fn T) 0 0 = piv := h.top
  have e2 : (fun a b => subM c (fn T) (a + 1) (b + 1)) = subM (c + 1) (fn T) := by
    funext a b
    show fn T (c + (a + 1)) (c + (b + 1)) = fn T (c + 1 + a) (c + 1 + b)
    congr 1 <;> omega
  rw [e1, e2] at hv
  rw [show n - (c + 1) = m by omega]
  generalize G (-1) m (subM (c + 1) (fn T)) = g at *
  obtain ⟨q, hq⟩ : ∃ q, (out * piv) % 9973 = out * piv + 9973 * q := ⟨-((out * piv) / 9973), by omega⟩
  rw [hq]
  obtain ⟨t, ht⟩ := hv
  exact ⟨t + q * g, by grind⟩
/-- row k as far as column j -/
def LIn (T T' : List (List Int)) (n c k : Nat) (by_ : Int) (j : Nat) : Prop := ∀ a b, a < n → b < n → fn T' a b = if a = k ∧ b < j then (fn T k b - by_ * fn T c b) % 9973 else fn T a b
theorem LIn.start {T : List (List Int)} {n c k : Nat} {t : Int} : LIn T T n c k t 0 := fun a b _ _ => by rw [if_neg (by omega)]
theorem LIn.here {T T' : List (List Int)} {n c k : Nat} {t : Int} {j : Nat} (h : LIn T T' n c k t j) {a : Nat} (ha : a < n) (hj : j < n) : fn T' a j = fn T a j := by rw [h a j ha hj, if_neg (by omega)]
theorem LIn.other {T T' : List (List Int)} {n c k : Nat} {t : Int} {j : Nat} (h : LIn T T' n c k t j) {a b : Nat} (ha : a < n) (hb : b < n) (hak : a ≠ k) : fn T' a b = fn T a b := by rw [h a b ha hb, if_neg (fun h => hak h.1)]
theorem LIn.next {T T' : List (List Int)} {n c k : Nat} {t : Int} {j : Nat} (h : LIn T T' n c k t j) (hs : Sq n T') (hk : k < n) (hj : j < n) (x : Int) (hx : x = (fn T k j - t * fn T c j) % 9973) : LIn T (putE T' k j x) n c k t (j + 1) := by
  intro a b ha hb
  rw [fn_put hs hk hj]
  by_cases h1 : a = k ∧ b = j
  · obtain ⟨rfl, rfl⟩ := h1
    rw [if_pos ⟨rfl, rfl⟩, if_pos ⟨rfl, by omega⟩, hx]
  · rw [if_neg h1, h a b ha hb]
    by_cases h2 : a = k ∧ b < j
    · rw [if_pos h2, if_pos ⟨h2.1, by omega⟩]
    · rw [if_neg h2, if_neg (by omega)]
theorem EIn.row {D : Int} {n c k : Nat} {out piv t : Int} {T T' : List (List Int)} (h : EIn D n c k out piv T) (hl : LIn T T' n c k t n) (hc : c < k) (hk : k < n) (ht : (9973 : Int) ∣ fn T k c - t * piv) : EIn D n c (k + 1) out piv T' := by
  refine ⟨fun i j hi hj => ?_, h.o0, h.o1, ?_, ?_, fun i h1 h2 => ?_⟩
  · rw [hl i j hi hj]
    split
    · omega
    · exact h.rng i j hi hj
  · have hv := h.val
    have e := G_mod (-1) 9973 (n - c) (M := subM c (fn T')) (N := setRow (subM c (fn T)) (k - c) (fun b => subM c (fn T) (k - c) b + (-t) * subM c (fn T) 0 b)) (fun a b ha hb => by
      show (9973 : Int) ∣ fn T' (c + a) (c + b) - _
      rw [hl (c + a) (c + b) (by omega) (by omega)]
      unfold setRow subM
      by_cases h1 : a = k - c
      · rw [if_pos ⟨by omega, by omega⟩, if_pos h1, show c + (k - c) = k by omega, Nat.add_zero]
        show (9973 : Int) ∣ (fn T k (c + b) - t * fn T c (c + b)) % 9973 - (fn T k (c + b) + -t * fn T c (c + b))
        rw [Int.neg_mul]
        generalize fn T k (c + b) = x
        generalize t * fn T c (c + b) = y
        omega
      · rw [if_neg (fun h => h1 (by omega)), if_neg h1, Int.sub_self]; exact Int.dvd_zero _)
    rw [det_add (n - c) (k - c) 0 (subM c (fn T)) (-t) (by omega) (by omega) (by omega)] at e
    obtain ⟨u, hu⟩ := e
    obtain ⟨v, hv⟩ := hv
    refine ⟨out * u + v, ?_⟩
    generalize G (-1) (n - c) (subM c (fn T')) = g at *
    generalize G (-1) (n - c) (subM c (fn T)) = f at *
    have : g = f + 9973 * u := by omega
    rw [this]; grind
  · rw [hl.other (by omega) (by omega) (by omega)]; exact h.top
  · by_cases hik : i = k
    · subst hik
      rw [hl i c hk (by omega), if_pos ⟨rfl, by omega⟩, h.top]
      exact Int.emod_eq_zero_of_dvd ht
    · rw [hl.other (by omega) (by omega) hik]; exact h.zero i h1 (by omega)
/-- the reciprocal -/
def powM (a n : Nat) : Nat := a ^ n % 9973
theorem powM_lt (a n : Nat) : powM a n < 9973 := Nat.mod_lt _ (by decide)
def invP (a : Nat) : Nat := powM a 9971
theorem invP_lt (a : Nat) : invP a < 9973 := powM_lt a 9971
theorem by_ok {x piv : Nat} (h0 : 0 < piv) (h1 : piv < 9973) : (9973 : Int) ∣ (x : Int) - ((x * invP piv % 9973 : Nat) : Int) * (piv : Int) := by
  have h2 : piv * invP piv % 9973 = 1 := by
    have := over_ok h0 h1
    unfold invP powM
    exact this
  generalize invP piv = o at *
  obtain ⟨q, hq⟩ : ∃ q : Nat, piv * o = 9973 * q + 1 := ⟨piv * o / 9973, by omega⟩
  obtain ⟨r, hr⟩ : ∃ r : Nat, x * o = 9973 * r + x * o % 9973 := ⟨x * o / 9973, by omega⟩
  generalize x * o % 9973 = t at *
  have hq' : (piv : Int) * o = 9973 * q + 1 := by rw [← Int.natCast_mul, hq]; omega
  have hr' : (x : Int) * o = 9973 * r + t := by rw [← Int.natCast_mul]; omega
  refine ⟨r * piv - x * q, ?_⟩
  have e : (t : Int) * piv = x * (9973 * q + 1) - 9973 * r * piv := by rw [← hq']; grind
  grind
end Go.Proofs.YtokneabcgmjhdaaGreatDoor

/- A book in memory: its block, its rows, its log. -/
namespace Go.Proofs.YtokneabcgmjhdaaGreatDoor
open Go.RowKit
set_option linter.unusedVariables false
set_option linter.unusedSimpArgs false

theorem info_str : (Tryz.prog.info? 9).map (fun i => (i.zero, i.size, i.bytes)) = some (some (.string ⟨#[]⟩), 1, 16) := by kernel_rfl
/-- v owns the strings -/
def OwnStrs (w : World) (B : Nat) (v : Value) (xs : List ByteArray) : Prop := w.ownsRow B 9 1 v xs.length (xs.map Value.string)
/-- the table of the powers of ten, whatever is done from B on -/
def Tab (B : Nat) (w : World) : Prop := ∀ w', Below B w w' → Lib.TabIs Tryz.prog w' "internal/strconv.uint64pow10" .u64 Lib.pow10Tab
theorem Tab.call {B : Nat} {w w' : World} (h : Tab B w) (hb : Below B w w') : Tab B w' := fun w2 h2 => h w2 (hb.trans h2)
theorem Tab.here {B : Nat} {w : World} (h : Tab B w) : Lib.TabIs Tryz.prog w "internal/strconv.uint64pow10" .u64 Lib.pow10Tab := h w (Below.refl _ _)

/-- a book -/
structure BookAt (w : World) (B Bk G : Nat) (vs : List Value) (vl : Value) (rows : List (List Int)) (lines : List ByteArray) : Prop where
  base : B ≤ Bk
  box : w.heap[Bk]? = some (.cells #[.slice (some ⟨G, 0, none⟩) 4 4, vl] 54 (0, 0))
  own : OwnRowsV w B (.slice (some ⟨G, 0, none⟩) 4 4) vs rows
  log : OwnStrs w B vl lines
  sq : Sq 4 rows
  ent : ∀ i j, i < 4 → j < 4 → 0 ≤ fn rows i j ∧ fn rows i j < 9973
/-- what a book's work leaves alone -/
structure BKept (w w' : World) (Bk : Nat) (vs : List Value) (vl : Value) : Prop where
  os : w'.os = w.os
  tape : w'.tape = w.tape
  output : w'.output = w.output
  size : w.heap.size ≤ w'.heap.size
  block : ∀ k, k < w.heap.size → k ≠ Bk → vl.ownBlock ≠ some k → (∀ i, i < 4 → (vs.getD i undef).ownBlock ≠ some k) → w'.heap[k]? = w.heap[k]?

theorem BookAt.lt {w : World} {B Bk G : Nat} {vs : List Value} {vl : Value} {rows : List (List Int)} {lines : List ByteArray} (h : BookAt w B Bk G vs vl rows lines) : Bk < w.heap.size := by
  have := h.box
  exact (Array.getElem?_eq_some_iff.1 this).1
theorem BookAt.call {w w' : World} {B Bk G : Nat} {vs : List Value} {vl : Value} {rows : List (List Int)} {lines : List ByteArray} (h : BookAt w B Bk G vs vl rows lines) (hb : Below w.heap.size w w') : BookAt w' B Bk G vs vl rows lines :=
  ⟨h.base, by rw [hb.block _ h.lt]; exact h.box, h.own.call hb, World.ownsRow.kept h.log (below_grown hb) (by cases hv : vl.ownBlock <;> simp), h.sq, h.ent⟩
theorem below_drew' {B : Nat} {w w' : World} (h : Below B w w') : Below B w w'.drew := ⟨h.os, h.tape, h.output, h.size, h.block⟩
theorem below_undrew {w w' : World} (h : Below w.drew.heap.size w.drew w') : Below w.heap.size w w' := ⟨h.os, h.tape, h.output, h.size, h.block⟩
theorem BookAt.cell0 {w : World} {B Bk G : Nat} {vs : List Value} {vl : Value} {rows : List (List Int)} {lines : List ByteArray} (h : BookAt w B Bk G vs vl rows lines) : w.cell? ⟨Bk, 0, none⟩ = some (.slice (some ⟨G, 0, none⟩) 4 4) := by
  simp [World.cell?, h.box]
theorem BookAt.cell1 {w : World} {B Bk G : Nat} {vs : List Value} {vl : Value} {rows : List (List Int)} {lines : List ByteArray} (h : BookAt w B Bk G vs vl rows lines) : w.cell? ⟨Bk, 1, none⟩ = some vl := by
  simp [World.cell?, h.box]
theorem BookAt.free {w : World} {B Bk G : Nat} {vs : List Value} {vl : Value} {rows : List (List Int)} {lines : List ByteArray} (h : BookAt w B Bk G vs vl rows lines) (j : Nat) : w.frozen? ⟨Bk, j, none⟩ = false := by
  simp [World.frozen?, h.box]
theorem BookAt.read {w : World} {B Bk G : Nat} {vs : List Value} {vl : Value} {rows : List (List Int)} {lines : List ByteArray} (h : BookAt w B Bk G vs vl rows lines) : RowsAt w (some ⟨G, 0, none⟩) 4 rows := by
  have := h.own.read
  rw [h.sq.1] at this
  exact this
theorem BookAt.logShape {w : World} {B Bk G : Nat} {vs : List Value} {vl : Value} {rows : List (List Int)} {lines : List ByteArray} (h : BookAt w B Bk G vs vl rows lines) :
    ∃ a cap, vl = .slice a lines.length cap ∧ lines.length ≤ cap ∧ cap ≤ maxLen ∧ (a = none → cap = 0) ∧ ∀ i, i < lines.length → ∃ g, a = some ⟨g, 0, none⟩ ∧ w.cell? ⟨g, i, none⟩ = some (.string (lines.getD i ⟨#[]⟩)) := by
  have hl := h.log
  rcases hl.2 with ⟨rfl, hn⟩ | ⟨g, cap, cur, rfl, hg, hb, h1, h2, h3, h4⟩
  · exact ⟨none, 0, by rw [hn], by omega, by simp [maxLen], fun _ => rfl, fun i hi => by omega⟩
  · refine ⟨_, cap, rfl, h1, h2, (fun h => by cases h), fun i hi => ⟨g, rfl, ?_⟩⟩
    have hh : w.ownsRow B 9 1 (.slice (Option.some ⟨g, 0, none⟩) lines.length cap) lines.length (lines.map Value.string) := hl
    rw [hh.cellAt i (by omega)]
    simp [hi, List.getD]

theorem own_slice {w : World} {B : Nat} {e : TypeId} {v : Value} {n : Nat} {xs : List Value} (h : w.ownsRow B e 1 v n xs) : ∃ a l c, v = .slice a l c := by
  rcases h.2 with ⟨rfl, hn⟩ | ⟨g, cap, cur, rfl, hg, hb, h1⟩ <;> exact ⟨_, _, _, rfl⟩
/-- blocks of one tag are not blocks of another one -/
theorem own_tag {w : World} {B k : Nat} {e e' : TypeId} {v : Value} {n : Nat} {xs : List Value} {cs : Array Value} {f : Nat × Nat} (h : w.ownsRow B e 1 v n xs) (hk : w.heap[k]? = some (.cells cs e' f)) (hne : e ≠ e') : v.ownBlock ≠ some k := by
  rcases h.2 with ⟨rfl, hn⟩ | ⟨g, cap, cur, rfl, hg, hb, h1⟩
  · simp [Value.ownBlock]
  · simp only [Value.ownBlock, ne_eq, Option.some.injEq]
    rintro rfl
    rw [hb] at hk
    simp only [Option.some.injEq, Obj.cells.injEq] at hk
    exact hne hk.2.1
theorem own_ne2 {w : World} {B B' : Nat} {e e' : TypeId} {v v' : Value} {n n' : Nat} {xs xs' : List Value} (h : w.ownsRow B e 1 v n xs) (k : w.ownsRow B' e' 1 v' n' xs') (hne : e ≠ e') : v.ownBlock = none ∨ v.ownBlock ≠ v'.ownBlock := by
  rcases h.2 with ⟨rfl, hn⟩ | ⟨g, cap, cur, rfl, hg, hb, h1⟩
  · exact Or.inl rfl
  · refine Or.inr fun he => ?_
    exact own_tag k hb (fun h => hne h.symm) he.symm

/-- a store into the matrix -/
theorem BookAt.at {w : World} {B Bk G : Nat} {vs : List Value} {vl : Value} {rows : List (List Int)} {lines : List ByteArray} (h : BookAt w B Bk G vs vl rows lines) {i j : Nat} (hi : i < 4) (hj : j < 4) :
    ∃ g rc, vs.getD i undef = .slice (some ⟨g, 0, none⟩) 4 rc ∧ g < w.heap.size ∧ B ≤ g ∧ w.cell? ⟨G, i, none⟩ = some (.slice (some ⟨g, 0, none⟩) 4 rc) ∧ w.frozen? ⟨g, j, none⟩ = false ∧ w.cell? ⟨g, j, none⟩ = some (.int .i64 (fn rows i j)) ∧
      ∀ x, 0 ≤ x → x < 9973 → BookAt (w.setCell ⟨g, j, none⟩ (.int .i64 x)) B Bk G vs vl (putE rows i j x) lines := by
  obtain ⟨g, rc, h1, h2, h3, h4, h5, h6, h7, h8⟩ := h.own.at h.sq hi hj
  have hlt := World.block_lt_of_cell? _ _ h7
  have hgrow := grown_setCell w g j
  have hrow := h.own.2.2.1 i (by rw [h.sq.1]; exact hi)
  have hne : (vs.getD i undef).ownBlock ≠ some Bk := own_tag hrow h.box (by decide)
  rw [h5] at hne
  have hgB : g ≠ Bk := fun e => hne (by rw [e]; rfl)
  refine ⟨g, rc, h5, hlt, by omega, h1, h6, h7, fun x hx1 hx2 => ⟨h.base, ?_, h8 x, ?_, put_sq h.sq _ _ _, fun a b ha hb => ?_⟩⟩
  · rw [(hgrow (.int .i64 x)).block Bk h.lt (by simpa using fun e => hgB e.symm)]; exact h.box
  · refine World.ownsRow.kept h.log (hgrow (.int .i64 x)) ?_
    have := own_ne2 h.log hrow (by decide)
    rw [h5] at this
    exact this
  · rw [fn_put h.sq hi hj]
    split
    · exact ⟨hx1, hx2⟩
    · exact h.ent a b ha hb
theorem BookAt.store {w : World} {B Bk G : Nat} {vs : List Value} {vl : Value} {rows : List (List Int)} {lines : List ByteArray} (h : BookAt w B Bk G vs vl rows lines) {i j g rc : Nat} (hi : i < 4) (hj : j < 4) (hv : vs.getD i undef = .slice (some ⟨g, 0, none⟩) 4 rc) (x : Int) (h0 : 0 ≤ x) (h1 : x < 9973) :
    BookAt (w.setCell ⟨g, j, none⟩ (.int .i64 x)) B Bk G vs vl (putE rows i j x) lines := by
  obtain ⟨g', rc', e1, e2, e3, e4, e5, e6, e7⟩ := h.at hi hj
  rw [hv] at e1
  cases e1
  exact e7 x h0 h1
/-- the log's new value -/
theorem BookAt.logged {w w1 : World} {B Bk G : Nat} {vs : List Value} {vl vl' : Value} {rows : List (List Int)} {lines : List ByteArray} {s : ByteArray} (h : BookAt w B Bk G vs vl rows lines)
    (ho : w1.ownsRow B 9 1 vl' (lines.length + 1) (lines.map Value.string ++ [.string s])) (hg : w.grownBy w1 vl.ownBlock) : BookAt (w1.setCell ⟨Bk, 1, none⟩ vl') B Bk G vs vl' rows (lines ++ [s]) := by
  have hbox1 : w1.heap[Bk]? = some (.cells #[.slice (some ⟨G, 0, none⟩) 4 4, vl] 54 (0, 0)) := by
    rw [hg.block Bk h.lt (fun e => own_tag h.log h.box (by decide) e.symm)]; exact h.box
  have hlt1 : Bk < w1.heap.size := (Array.getElem?_eq_some_iff.1 hbox1).1
  have hst := grown_setCell w1 Bk 1 vl'
  have hV1 : OwnVals w1 B (.slice (some ⟨G, 0, none⟩) 4 4) vs := World.ownsRow.kept h.own.1 hg (own_ne2 h.own.1 h.log (by decide))
  have hR1 : ∀ i, i < rows.length → OwnInts w1 B (vs.getD i undef) (rows.getD i []) := fun i hi => World.ownsRow.kept (h.own.2.2.1 i hi) hg (own_ne2 (h.own.2.2.1 i hi) h.log (by decide))
  refine ⟨h.base, ?_, ⟨World.ownsRow.kept hV1 hst (Or.inr (own_tag hV1 hbox1 (by decide))), h.own.2.1, fun i hi => World.ownsRow.kept (hR1 i hi) hst (Or.inr (own_tag (hR1 i hi) hbox1 (by decide))), h.own.2.2.2⟩, ?_, h.sq, h.ent⟩
  · show (w1.heap.modify Bk _)[Bk]? = _
    rw [Array.getElem?_modify, if_pos rfl, hbox1]
    rfl
  · have := World.ownsRow.kept ho hst (Or.inr (own_tag ho hbox1 (by decide)))
    unfold OwnStrs
    rw [List.map_append, List.length_append]
    exact this
theorem BKept.below {w w' : World} {B Bk G : Nat} {vs : List Value} {vl : Value} {rows : List (List Int)} {lines : List ByteArray} (k : BKept w w' Bk vs vl) (h : BookAt w B Bk G vs vl rows lines) : Below B w w' := by
  refine ⟨k.os, k.tape, k.output, k.size, fun b hb => ?_⟩
  have h1 := h.base
  have h2 := h.lt
  refine k.block b (by omega) (by omega) (fun e => ?_) (fun i hi e => ?_)
  · have := (World.ownsRow.lt h.log b e).1; omega
  · have := (World.ownsRow.lt (h.own.2.2.1 i (by rw [h.sq.1]; exact hi)) b e).1; omega
theorem BKept.of {w w' : World} (Bk : Nat) (vs : List Value) (vl : Value) (h : Below w.heap.size w w') : BKept w w' Bk vs vl := ⟨h.os, h.tape, h.output, h.size, fun k hk _ _ _ => h.block k hk⟩
theorem BKept.trans {w w1 w2 : World} {Bk : Nat} {vs : List Value} {vl vl1 : Value} (h : BKept w w1 Bk vs vl) (k : BKept w1 w2 Bk vs vl1) (hl : ∀ b, vl1.ownBlock = some b → vl.ownBlock = some b ∨ w.heap.size ≤ b) : BKept w w2 Bk vs vl := by
  refine ⟨k.os.trans h.os, k.tape.trans h.tape, k.output.trans h.output, Nat.le_trans h.size k.size, fun b hb h1 h2 h3 => ?_⟩
  have h4 := h.size
  rw [k.block b (by omega) h1 (fun e => by rcases hl b e with e2 | e2; exact h2 e2; omega) h3]
  exact h.block b hb h1 h2 h3
/-- a row of the matrix is written -/
theorem BKept.store {w : World} {Bk : Nat} {vs : List Value} {vl : Value} {i g rc : Nat} (hi : i < 4) (hv : vs.getD i undef = .slice (some ⟨g, 0, none⟩) 4 rc) (j : Nat) (u : Value) : BKept w (w.setCell ⟨g, j, none⟩ u) Bk vs vl := by
  have hg := grown_setCell w g j u
  refine ⟨hg.os, hg.tape, hg.output, hg.size, fun k hk _ _ h3 => hg.block k hk fun e => ?_⟩
  have := h3 i hi
  rw [hv] at this
  exact this (by rw [Option.some.inj e]; rfl)
theorem BKept.logged {w w1 : World} {Bk : Nat} {vs : List Value} {vl vl' : Value} (hg : w.grownBy w1 vl.ownBlock) : BKept w (w1.setCell ⟨Bk, 1, none⟩ vl') Bk vs vl := by
  have hs := grown_setCell w1 Bk 1 vl'
  have := hg.size
  refine ⟨hs.os.trans hg.os, hs.tape.trans hg.tape, hs.output.trans hg.output, Nat.le_trans hg.size hs.size, fun k hk h1 h2 h3 => ?_⟩
  rw [hs.block k (by omega) (fun e => h1 (Option.some.inj e)), hg.block k hk (fun e => h2 e.symm)]
theorem grown_alloc {w w' : World} {o : Obj} {r : Option Nat} (h : (w.alloc o).grownBy w' r) : w.grownBy w' r := by
  have hs := h.size
  have h1 : w.heap.size ≤ (w.alloc o).heap.size := le_alloc (Nat.le_refl _) o
  refine ⟨h.os, h.tape, h.output, by omega, fun k hk hn => ?_⟩
  have h2 : k < (w.alloc o).heap.size := by simp; omega
  rw [h.block k h2 hn]
  exact heap_alloc_old w o hk
theorem BookAt.boxKept {w w1 : World} {B Bk G : Nat} {vs : List Value} {vl : Value} {rows : List (List Int)} {lines : List ByteArray} (h : BookAt w B Bk G vs vl rows lines) (hg : w.grownBy w1 vl.ownBlock) : w1.cell? ⟨Bk, 1, none⟩ = some vl ∧ w1.frozen? ⟨Bk, 1, none⟩ = false := by
  have hbox1 : w1.heap[Bk]? = some (.cells #[.slice (some ⟨G, 0, none⟩) 4 4, vl] 54 (0, 0)) := by
    rw [hg.block Bk h.lt (fun e => own_tag h.log h.box (by decide) e.symm)]; exact h.box
  exact ⟨by simp [World.cell?, hbox1], by simp [World.frozen?, hbox1]⟩
/-- a new book -/
theorem BookAt.new {w w1 : World} {G : Nat} {vs : List Value} (ho : OwnRowsV w1 w.heap.size (.slice (some ⟨G, 0, none⟩) 4 4) vs (List.replicate 4 (List.replicate 4 0))) (hb : Below w.heap.size w w1) :
    BookAt (w1.alloc (.cells #[.slice (some ⟨G, 0, none⟩) 4 4, .slice none 0 0] 54)) w.heap.size w1.heap.size G vs (.slice none 0 0) (List.replicate 4 (List.replicate 4 0)) [] := by
  refine ⟨hb.size, heap_alloc_new _ _, ho.call ((Below.refl _ _).alloc (Nat.le_refl _) _), World.ownsRow_nil _ _ _ _, ⟨rfl, fun k hk => ?_⟩, fun i j hi hj => ?_⟩
  · have : k = 0 ∨ k = 1 ∨ k = 2 ∨ k = 3 := by omega
    rcases this with rfl | rfl | rfl | rfl <;> rfl
  · have h1 : i = 0 ∨ i = 1 ∨ i = 2 ∨ i = 3 := by omega
    have h2 : j = 0 ∨ j = 1 ∨ j = 2 ∨ j = 3 := by omega
    rcases h1 with rfl | rfl | rfl | rfl <;> rcases h2 with rfl | rfl | rfl | rfl <;> decide
end Go.Proofs.YtokneabcgmjhdaaGreatDoor

namespace Go.Proofs.YtokneabcgmjhdaaGreatDoor
open Go.RowKit
/-- the sum of a record, so many bytes told -/
def csum (l : List UInt8) : Nat → Int
  | 0 => 0
  | k + 1 => csum l k + (l.getD k 0).toNat * ((k : Int) + 1)
theorem csum_bd (l : List UInt8) : ∀ k : Nat, k ≤ 1000000 → 0 ≤ csum l k ∧ csum l k ≤ 256000000 * k
  | 0, _ => by simp [csum]
  | k + 1, h => by
    obtain ⟨h1, h2⟩ := csum_bd l k (by omega)
    have h3 : (l.getD k 0).toNat < 256 := (l.getD k 0).toNat_lt
    have h4 : ((l.getD k 0).toNat : Int) * ((k : Int) + 1) ≤ 255 * 1000000 := Int.mul_le_mul (by omega) (by omega) (by omega) (by omega)
    have h5 : 0 ≤ ((l.getD k 0).toNat : Int) * ((k : Int) + 1) := Int.mul_nonneg (by omega) (by omega)
    unfold csum
    omega
theorem csum_wrap {l : List UInt8} {n k : Nat} {s : ByteArray} (hs : n ≤ 1000000) (h : l = s.data.toList ∧ n = s.size) (hk : k < n) (h' : k < s.size := by omega) :
    csum l (k + 1) = wrap64 (csum l k + wrap64 (wrap64 ((s[k]'h').toNat : Int) * ((k : Int) + 1))) := by
  have e : s[k]'h' = l.getD k 0 := by
    rw [h.1]
    have h2 : k < s.data.size := h'
    simp only [List.getD_eq_getElem?_getD, Array.getElem?_toList, ByteArray.getElem_eq_getElem_data]
    rw [Array.getElem?_eq_getElem h2]
    rfl
  rw [e]
  have h3 : (l.getD k 0).toNat < 256 := (l.getD k 0).toNat_lt
  have h4 : ((l.getD k 0).toNat : Int) * ((k : Int) + 1) ≤ 255 * 1000000 := Int.mul_le_mul (by omega) (by omega) (by omega) (by omega)
  have h5 : 0 ≤ ((l.getD k 0).toNat : Int) * ((k : Int) + 1) := Int.mul_nonneg (by omega) (by omega)
  obtain ⟨h1, h2⟩ := csum_bd l k (by omega)
  rw [wrap_in (n := ((l.getD k 0).toNat : Int)) (by omega) (by omega), wrap_in (n := ((l.getD k 0).toNat : Int) * ((k : Int) + 1)) (by omega) (by omega), wrap_in (by omega) (by omega)]
  rfl
theorem csum_mod (l : List UInt8) {n : Nat} (hs : n ≤ 1000000) : (csum l n).tmod 9973 = csum l n % 9973 := Int.tmod_eq_emod_of_nonneg (csum_bd l n hs).1
theorem Checksum_any (s : ByteArray) (w : World) (hs : s.size ≤ 1000000) :
    Calls Tryz.prog 112 #[.string s] w fun e w' => e = .returned (.int .i64 (csum s.data.toList s.size % 9973)) ∧ w = w' := by
  obtain ⟨l, hl⟩ : ∃ l, l = s.data.toList := ⟨_, rfl⟩
  obtain ⟨n, hn⟩ : ∃ n, n = s.size := ⟨_, rfl⟩
  rw [← hl, ← hn]
  have HL := Lib.hid (show l = s.data.toList ∧ n = s.size from ⟨hl, hn⟩)
  rw [← hn] at hs
  clear hl
  go_enter Tryz.func112, Tryz.ntmps112
  go_wp2_with fail
  go_loopg [3, 7] (n + 1) (fun g t i wr => ∃ k : Nat, k ≤ n ∧ n - k < g ∧ t = .int .i64 (csum l k) ∧ i = .int .i64 k ∧ wr = w)
  case atStart => exact ⟨0, by omega, by omega, rfl, rfl, rfl⟩
  case round =>
    obtain ⟨k, hk, hg, rfl, rfl, rfl⟩ := hrel
    by_cases hlt : k < n
    · go_wp2_with fail
      go_roundg (n - k)
      case measure => omega
      case rel =>
        refine ⟨k + 1, by omega, by omega, ?_, by go_num, rfl⟩
        rw [csum_wrap hs HL.out hlt]
    · obtain rfl : n = k := by omega
      have hd := csum_mod l hs
      go_wp2_with fail
      go_ret
      refine ⟨?_, rfl⟩
      rw [← HL.out.2]
      show Ending.returned (Value.int .i64 ((csum l n).tmod 9973)) = _
      rw [hd]
end Go.Proofs.YtokneabcgmjhdaaGreatDoor

open Go
namespace Go.Proofs.YtokneabcgmjhdaaGreatDoor
/-- append, and WHICH block the answer lies in: the old one, or one that is new -/
theorem wpList_append_own2 {P : Program} {w : World} {ops : Array Oper} {rest : List Oper} {o : Oper} {a : Act} {Q : Exit → Act → World → Prop} (hgd : o.guard = none) (s x : Operand) (t : TypeId)
    (ho : o.op = .call { callee := .builtin .append, args := #[s, x], argTypes := #[t, t] })
    (base : Nat) (e : TypeId) (i : TypeInfo) (z : Value) (bytes : Nat) (ht : P.underlying t = some (.slice e)) (hi : P.info? e = some i) (hz : i.zero = some z)
    (hsize : i.size = 1) (hby : i.bytes = bytes) (hzs : z.cells.size = 1)
    (v : Value) (n : Nat) (xs : List Value) (hs : a.eval s = v) (hown : w.ownsRow base e 1 v n xs)
    (ad : Addr) (m c : Nat) (news : List Value) (hx : a.eval x = .slice (some ad) m c) (hl : news.length = m) (hnews : ∀ j u, news[j]? = some u → w.cell? (ad.add j) = some u) (h1 : ∀ u ∈ news, u.oneCell' = true)
    (h63 : n + m ≤ maxLen) (hbytes : (n + m) * bytes ≤ 140737488355328) (hbase : base ≤ w.heap.size)
    (h : ∀ v' w', w'.ownsRow base e 1 v' (n + m) (xs ++ news) → w.grownBy w' v.ownBlock → (∀ k, v'.ownBlock = some k → v.ownBlock = some k ∨ w.heap.size ≤ k) → wpList P ops Q rest (a.put o.dst v') w') : wpList P ops Q (o :: rest) a w := by
  have up : ∀ {w' : World} {v' : Value} {k : Nat} {ys : List Value}, w'.ownsRow w.heap.size e 1 v' k ys → w'.ownsRow base e 1 v' k ys := by
    intro w' v' k ys hh
    refine ⟨hh.1, ?_⟩
    rcases hh.2 with h | ⟨g, cap, cur, h1, h2, h3⟩
    · exact Or.inl h
    · exact Or.inr ⟨g, cap, cur, h1, by omega, h3⟩
  rcases hown.2 with ⟨rfl, rfl⟩ | ⟨g, cap, cur, rfl, hg, hb, hc1, hc2, hc3, hc4⟩
  · have hx0 : xs = [] := List.eq_nil_of_length_eq_zero (by simpa using hown.1)
    subst hx0
    refine wpList_append_own w hgd s x t ho w.heap.size e i z 1 bytes ht hi hz hsize hby hzs (by decide) _ 0 [] hs (World.ownsRow_nil _ _ _ _) ad m c news hx (by omega) hnews h1 h63 hbytes (Nat.le_refl _) (fun v' w' h2 h3 _ => h v' w' (up h2) h3 (fun k hk => Or.inr (h2.lt k hk).1))
  · by_cases hf : n + m ≤ cap
    · refine wpList_append_fits w hgd s x t ho base e i 1 ht hi hsize g n cap xs hs hown ad m c news hx (by omega) hnews h1 hf (fun w' h2 h3 => h _ w' h2 h3 (fun k hk => Or.inl hk))
    · refine wpList_append_grows w hgd s x t ho e i z 1 bytes ht hi hz hsize hby hzs (by decide) (some ⟨g, 0, none⟩) n cap xs hs (fun hh => by cases hh) hown.1 ?_ ad m c news hx (by omega) hnews h1 (by omega) h63 hbytes ?_
      · intro b hb' j u hj
        cases hb'
        exact hown.cells rfl j u hj
      · intro v' w' h2 h3
        refine h v' w' (up h2) ⟨h3.os, h3.tape, h3.output, h3.size, fun k hk _ => h3.block k hk (by simp)⟩ (fun k hk => Or.inr (h2.lt k hk).1)
end Go.Proofs.YtokneabcgmjhdaaGreatDoor

/- Contract of num.Grid. -/
namespace Go.Proofs.YtokneabcgmjhdaaGreatDoor
open Go.RowKit
set_option linter.unusedVariables false
set_option linter.unusedSimpArgs false


/-- rows of zeros, k of them made -/
def gridTo (r c k : Nat) : List (List Int) := List.replicate k (List.replicate c 0) ++ List.replicate (r - k) []
theorem gridTo_len (r c k : Nat) (hk : k ≤ r) : (gridTo r c k).length = r := by simp [gridTo]; omega
theorem gridTo_set (r c k : Nat) (hk : k < r) : (gridTo r c k).set k (List.replicate c 0) = gridTo r c (k + 1) := by
  unfold gridTo
  rw [List.set_append_right _ _ (by simp)]
  rw [List.length_replicate, Nat.sub_self, show r - k = (r - (k + 1)) + 1 from by omega, List.replicate_succ, List.set_cons_zero, List.replicate_succ', List.append_assoc]
  rfl

theorem Grid_any (r c : Nat) (w : World) (hr : r ≤ 1000000) (hc : c ≤ 1000000) :
    Calls Tryz.prog 23 #[.int .i64 r, .int .i64 c] w fun e w' => (∃ G, ∃ vs, e = .returned (.slice (some ⟨G, 0, none⟩) r r) ∧ OwnRowsV w' w.heap.size (.slice (some ⟨G, 0, none⟩) r r) vs (List.replicate r (List.replicate c 0))) ∧ Below w.heap.size w w' := by
  obtain ⟨ii, hi, hz0, hz1, hz2⟩ := info_parts info_int
  obtain ⟨ji, hj, hy0, hy1, hy2⟩ := info_parts info_ints
  obtain ⟨B, hB⟩ : ∃ B, B = w.heap.size := ⟨_, rfl⟩
  rw [← hB]
  have HB := Lib.hid hB
  have hBle : B ≤ w.heap.size := by omega
  clear hB
  go_enter Tryz.func23, Tryz.ntmps23
  go_wp2_with (at_make; refine wpList_make_full _ rfl _ _ 46 rfl B 62 ji (.slice none 0 0) 1 Tryz.underlying46 hj hy0 hy1 _ _ _ _ r rfl rfl rfl rfl (by rw [hy2]; omega) (by unfold maxLen; omega) hBle ?_; intro w1 hown1 hgrow1)
  generalize hG : w.heap.size = G at *
  go_loopg [11] (r + 1) (fun g i wr => ∃ k : Nat, k ≤ r ∧ r - k < g ∧ i = .int .i64 k ∧ (∃ vs, OwnRowsV wr B (.slice (some ⟨G, 0, none⟩) r r) vs (gridTo r c k)) ∧ Below B w wr ∧ B ≤ wr.heap.size)
  case atStart =>
    refine ⟨0, by omega, by omega, rfl, ⟨_, by simpa [gridTo] using vals_made hown1⟩, grown_below hgrow1 (by omega) (fun k hk => by cases hk), ?_⟩
    have := hgrow1.size
    omega
  case round =>
    obtain ⟨k, hk, hg, rfl, ⟨vs, hvs⟩, hbel, hsz⟩ := hrel
    clear hown1 hgrow1
    by_cases hlt : k < r
    · have hfz := hvs.free k
      have hcell := hvs.isCell (k := k) (by rw [gridTo_len r c k hk]; exact hlt)
      obtain ⟨hbG, hlG⟩ := hvs.base
      generalize vs.getD k undef = u at hcell
      have HVS := Lib.hid hvs
      clear hvs
      go_wp2_with (at_make; refine wpList_make_full _ rfl _ _ 62 rfl wr.heap.size 3 ii (.int .i64 0) 1 Tryz.underlying62 hi hz0 hz1 _ _ _ _ c rfl rfl rfl rfl (by rw [hz2]; omega) (by unfold maxLen; omega) (Nat.le_refl _) ?_; intro w2 hown2 hgrow2; have hcell2 := hgrow2.cell hcell (by simp); have hfz2 := (fresh1 hgrow2).frozen (p := ⟨G, k, none⟩) hlG)
      have hf1 := fresh1 hgrow2
      have hp := OwnRowsV.put HVS.out hsz hf1 (ints_made hown2) k (by rw [gridTo_len r c k hk]; exact hlt)
      rw [gridTo_set r c k hlt] at hp
      have hbel2 := (hbel.trans (hf1.mono hsz)).setCell (p := ⟨G, k, none⟩) hbG (.slice (some ⟨wr.heap.size, 0, none⟩) c c)
      go_roundg (r - k)
      case measure => omega
      case rel =>
        refine ⟨k + 1, by omega, by omega, by go_num, ⟨_, hp⟩, hbel2, ?_⟩
        have := hf1.size
        rw [Go.Deep.nblk_setCell]
        omega
    · obtain rfl : k = r := by omega
      have e : gridTo k c k = List.replicate k (List.replicate c 0) := by simp [gridTo]
      rw [e] at hvs
      have HVS := Lib.hid hvs
      clear hvs e
      go_wp2_with fail
      go_ret
      exact ⟨⟨_, _, rfl, HVS.out⟩, hbel⟩
end Go.Proofs.YtokneabcgmjhdaaGreatDoor

/- Contracts of num.Out and num.Any. -/
namespace Go.Proofs.YtokneabcgmjhdaaGreatDoor
open Go.RowKit
set_option linter.unusedVariables false
set_option linter.unusedSimpArgs false

theorem Out_any (n lo hi : Int) (w : World) :
    Calls Tryz.prog 111 #[.int .i64 n, .int .i64 lo, .int .i64 hi] w fun e w' => e = .returned (.bool (decide (n < lo) || decide (hi < n))) ∧ w = w' := by
  by_cases h1 : n < lo
  · go_enter Tryz.func111, Tryz.ntmps111
    go_wp2
    go_ret
    exact ⟨ret_bool (by simp [h1]), rfl⟩
  · by_cases h2 : hi < n
    · go_enter Tryz.func111, Tryz.ntmps111
      go_wp2
      go_ret
      exact ⟨ret_bool (by simp [h2]), rfl⟩
    · go_enter Tryz.func111, Tryz.ntmps111
      go_wp2
      go_ret
      exact ⟨ret_bool (by simp [h1, h2]), rfl⟩

theorem Out_any' (n lo hi : Int) (w : World) :
    Calls Tryz.prog 111 #[.int .i64 n, .int .i64 lo, .int .i64 hi] w fun e w' => e = .returned (.bool (outB lo hi n)) ∧ w = w' := Out_any n lo hi w

theorem Any_any (a : Option Addr) (n cap : Nat) (xs : List Int) (lo hi : Int) (w : World) (hx : IntsAt w a n xs) (hn : n ≤ 9223372036854775807) :
    Calls Tryz.prog 110 #[.slice a n cap, .int .i64 lo, .int .i64 hi] w fun e w' => e = .returned (.bool (anyOut lo hi xs)) ∧ w = w' := by
  obtain ⟨hlen, hc⟩ := hx
  have HL := Lib.hid hlen
  clear hlen
  go_enter Tryz.func110, Tryz.ntmps110
  go_wp2
  go_loop [11] (fun i => ∃ k : Nat, k ≤ n ∧ i = .int .i64 k ∧ (xs.take k).any (outB lo hi) = false) (fun i => n - (intOf i).toNat)
  case atStart => exact ⟨0, by omega, rfl, by simp⟩
  case round =>
    obtain ⟨k, hk, rfl, h0⟩ := hrel
    have H0 := Lib.hid h0
    clear h0
    by_cases hlt : k < n
    · obtain ⟨b, off, rfl, hcell⟩ := hc k hlt
      obtain ⟨x, hx⟩ : ∃ x, x = xs.getD k 0 := ⟨_, rfl⟩
      rw [← hx] at hcell
      have HX := Lib.hid hx
      clear hx hc
      by_cases ho : outB lo hi x = true
      · go_wp2_with (go_at_call 111; refine (Out_any' _ _ _ _).mono ?_; rintro e w' ⟨rfl, rfl⟩)
        go_ret
        exact ⟨ret_bool (anyOut_hit lo hi xs k (by rw [HL.out]; exact hlt) (by rw [← HX.out]; exact ho)).symm, rfl⟩
      · have ho' : outB lo hi x = false := by simpa using ho
        clear ho
        go_wp2_with (go_at_call 111; refine (Out_any' _ _ _ _).mono ?_; rintro e w' ⟨rfl, rfl⟩)
        go_round
        case rel => exact ⟨k + 1, by omega, by go_num, anyOut_snoc lo hi xs k (by rw [HL.out]; exact hlt) H0.out (by rw [← HX.out]; exact ho')⟩
        case measure => simp [intOf]; omega
    · have he : (xs.take k).any (outB lo hi) = anyOut lo hi xs := by unfold anyOut; rw [List.take_of_length_le (by rw [HL.out]; omega)]
      rw [he] at H0
      go_wp2
      go_ret
      exact ⟨ret_bool H0.out.symm, rfl⟩
end Go.Proofs.YtokneabcgmjhdaaGreatDoor

/- Contract of num.First, of two errors. -/
namespace Go.Proofs.YtokneabcgmjhdaaGreatDoor
open Go.RowKit
set_option linter.unusedVariables false
set_option linter.unusedSimpArgs false

theorem First_two (b : Nat) (x y : Int) (w : World) (h0 : w.cell? ⟨b, 0, none⟩ = some (errV x)) (h1 : w.cell? ⟨b, 1, none⟩ = some (errV y)) :
    Calls Tryz.prog 88 #[.slice (some ⟨b, 0, none⟩) 2 2] w fun e w' => e = .returned (errV (if x ≠ 0 then x else y)) ∧ w = w' := by
  by_cases hx : x = 0
  · rw [if_neg (by omega)]
    subst hx
    rw [errV_zero] at h0
    by_cases hy : y = 0
    · subst hy
      rw [errV_zero] at h1 ⊢
      go_enter Tryz.func88, Tryz.ntmps88
      go_wp2_with fail
      go_loopg [7] 3 (fun g i wr => ∃ k : Nat, k ≤ 2 ∧ 2 - k < g ∧ i = .int .i64 k ∧ wr = w)
      case atStart => exact ⟨0, by omega, by omega, rfl, rfl⟩
      case round =>
        obtain ⟨k, hk, hg, rfl, rfl⟩ := hrel
        have hc : k = 0 ∨ k = 1 ∨ k = 2 := by omega
        rcases hc with rfl | rfl | rfl
        · go_wp2_with fail
          go_roundg 2
          case measure => omega
          case rel => exact ⟨1, by omega, by omega, rfl, rfl⟩
        · go_wp2_with fail
          go_roundg 1
          case measure => omega
          case rel => exact ⟨2, by omega, by omega, rfl, rfl⟩
        · go_wp2_with fail
          go_ret
          exact ⟨rfl, rfl⟩
    · rw [errV_pos hy] at h1 ⊢
      go_enter Tryz.func88, Tryz.ntmps88
      go_wp2_with fail
      go_loopg [7] 3 (fun g i wr => ∃ k : Nat, k ≤ 1 ∧ 2 - k < g ∧ i = .int .i64 k ∧ wr = w)
      case atStart => exact ⟨0, by omega, by omega, rfl, rfl⟩
      case round =>
        obtain ⟨k, hk, hg, rfl, rfl⟩ := hrel
        have hc : k = 0 ∨ k = 1 := by omega
        rcases hc with rfl | rfl
        · go_wp2_with fail
          go_roundg 2
          case measure => omega
          case rel => exact ⟨1, by omega, by omega, rfl, rfl⟩
        · go_wp2_with fail
          go_ret
          exact ⟨rfl, rfl⟩
  · rw [if_pos hx]
    rw [errV_pos hx] at h0 ⊢
    clear h1
    go_enter Tryz.func88, Tryz.ntmps88
    go_wp2_with fail
    go_loopg [7] 3 (fun g i wr => i = .int .i64 0 ∧ wr = w)
    case atStart => exact ⟨rfl, rfl⟩
    case round =>
      obtain ⟨rfl, rfl⟩ := hrel
      go_wp2_with fail
      go_ret
      exact ⟨rfl, rfl⟩
end Go.Proofs.YtokneabcgmjhdaaGreatDoor

/- Rows, one more taken; the cells of integers. -/
namespace Go.Proofs.YtokneabcgmjhdaaGreatDoor
open Go.RowKit
set_option linter.unusedVariables false
set_option linter.unusedSimpArgs false

theorem take_snoc_rows (rows : List (List Int)) (k : Nat) (hk : k < rows.length) : rows.take (k + 1) = rows.take k ++ [rows.getD k []] := by
  rw [List.take_succ_eq_append_getElem hk]
  simp [List.getD, hk]

/-- the cells of a slice of integers, as append reads them -/
theorem cells_of_ints {w : World} {a : Option Addr} {n : Nat} {xs : List Int} (h : IntsAt w a n xs) : ∀ j u, (xs.map (Value.int .i64))[j]? = some u → ∃ ad', a = some ad' ∧ w.cell? (ad'.add j) = some u := by
  intro j u hj
  have hjl := (List.getElem?_eq_some_iff.1 hj).1
  rw [List.length_map, h.1] at hjl
  obtain ⟨b, off, ha, hc⟩ := h.2 j hjl
  refine ⟨_, ha, ?_⟩
  rw [Go.WideShapes.add_plain, hc, ← hj]
  have hlen : j < xs.length := by rw [h.1]; exact hjl
  simp [hlen, List.getD]

end Go.Proofs.YtokneabcgmjhdaaGreatDoor

/- Contract of num.Copy. -/
namespace Go.Proofs.YtokneabcgmjhdaaGreatDoor
open Go.RowKit
set_option linter.unusedVariables false
set_option linter.unusedSimpArgs false

/-- the first k rows copied -/
def copyTo (rows : List (List Int)) (n k : Nat) : List (List Int) := rows.take k ++ List.replicate (n - k) []
theorem copyTo_len (rows : List (List Int)) (n k : Nat) (hk : k ≤ n) (hl : rows.length = n) : (copyTo rows n k).length = n := by simp [copyTo]; omega
theorem copyTo_set (rows : List (List Int)) (n k : Nat) (hk : k < n) (hl : rows.length = n) : (copyTo rows n k).set k (rows.getD k []) = copyTo rows n (k + 1) := by
  unfold copyTo
  rw [List.set_append_right _ _ (by simp; omega)]
  rw [List.length_take, show k - min k rows.length = 0 by omega, show n - k = (n - (k + 1)) + 1 from by omega, List.replicate_succ, List.set_cons_zero, take_snoc_rows rows k (by omega), List.append_assoc]
  rfl

theorem NCopy_any (a : Option Addr) (n cap : Nat) (rows : List (List Int)) (w : World) (hr : RowsAt w a n rows) (hn2 : n ≤ 1000) (hcap : n ≤ cap) (hw : ∀ k, k < n → (rows.getD k []).length ≤ 1000000) :
    Calls Tryz.prog 94 #[.slice a n cap] w fun e w' => (∃ G, ∃ vs, e = .returned (.slice (some ⟨G, 0, none⟩) n n) ∧ OwnRowsV w' w.heap.size (.slice (some ⟨G, 0, none⟩) n n) vs rows) ∧ Below w.heap.size w w' := by
  obtain ⟨ii, hi, hz0, hz1, hz2⟩ := info_parts info_int
  obtain ⟨ji, hj, hy0, hy1, hy2⟩ := info_parts info_ints
  obtain ⟨B, hB⟩ : ∃ B, B = w.heap.size := ⟨_, rfl⟩
  rw [← hB]
  have HB := Lib.hid hB
  have HR := Lib.hid hr
  have HW := Lib.hid hw
  have HL := Lib.hid hr.1
  have hBle : B ≤ w.heap.size := by omega
  clear hB hr hw
  go_enter Tryz.func94, Tryz.ntmps94
  go_wp2_with (at_make; refine wpList_make_full _ rfl _ _ 46 rfl B 62 ji (.slice none 0 0) 1 Tryz.underlying46 hj hy0 hy1 _ _ _ _ n rfl rfl rfl rfl (by rw [hy2]; omega) (by unfold maxLen; omega) hBle ?_; intro w1 hown1 hgrow1)
  generalize hG : w.heap.size = G at *
  go_loopg [11] (n + 1) (fun g i wr => ∃ k : Nat, k ≤ n ∧ n - k < g ∧ i = .int .i64 k ∧ (∃ vs, OwnRowsV wr B (.slice (some ⟨G, 0, none⟩) n n) vs (copyTo rows n k)) ∧ Below B w wr ∧ B ≤ wr.heap.size)
  case atStart =>
    refine ⟨0, by omega, by omega, rfl, ⟨_, by simpa [copyTo] using vals_made hown1⟩, grown_below hgrow1 (by omega) (fun k hk => by cases hk), ?_⟩
    have := hgrow1.size
    omega
  case round =>
    obtain ⟨k, hk, hg, rfl, ⟨vs, hvs⟩, hbel, hsz⟩ := hrel
    clear hown1 hgrow1
    by_cases hlt : k < n
    · have hfz := hvs.free k
      have hcell := hvs.isCell (k := k) (by rw [copyTo_len rows n k hk HL.out]; exact hlt)
      obtain ⟨hbG, hlG⟩ := hvs.base
      generalize vs.getD k undef = u at hcell
      have HVS := Lib.hid hvs
      have hrr := HR.out.call (w' := wr) (by rw [hG, ← HB.out]; exact hbel)
      obtain ⟨b, off, ra, rc, rfl, hc, e1, e2, e3, e4⟩ := hrr.2 k hlt
      have hwk := HW.out k hlt
      obtain ⟨row, hrow⟩ : ∃ r, r = rows.getD k [] := ⟨_, rfl⟩
      rw [← hrow] at hc e1 e4 hwk
      obtain ⟨M, hM⟩ : ∃ M, M = row.length := ⟨_, rfl⟩
      rw [← hM] at hc e1 e4 hwk
      have HRW := Lib.hid hrow
      have hMl : (row.map (Value.int .i64)).length = M := by rw [List.length_map, hM]
      have HM := Lib.hid hMl
      have HM2 := Lib.hid hM
      have E3 := Lib.hid e3
      have E4 := Lib.hid (cells_of_ints e4)
      clear hvs hrow hM hMl e3 e4 hrr
      go_wp2_with (at_builtin; refine wpList_append_own1 (o := ⟨some 19, _, _, _, _, _⟩) rfl _ _ 62 rfl wr.heap.size 3 ii (.int .i64 0) 8 Tryz.underlying62 hi hz0 hz1 hz2 rfl _ 0 [] rfl (World.ownsRow_nil _ _ _ _) _ M _ (row.map (Value.int .i64)) rfl HM.out E3.out (fun j u h => E4.out j u h) (ints_oneCell _ _) (by unfold maxLen; omega) (by omega) (Nat.le_refl _) ?_; intro v2 w2 hown2 hgrow2; have hcell2 := (show wr.grownBy w2 none from hgrow2).cell hcell (by simp); have hfz2 := (fresh1 hgrow2).frozen (p := ⟨G, k, none⟩) hlG; obtain ⟨ra2, ln2, rc2, rfl⟩ := OwnInts.isSlice hown2)
      have hf1 := fresh1 hgrow2
      have hoi : OwnInts w2 wr.heap.size (.slice ra2 ln2 rc2) row := by
        unfold OwnInts
        rw [← HM2.out]
        simpa using hown2
      have hp := OwnRowsV.put HVS.out hsz hf1 hoi k (by rw [copyTo_len rows n k hk HL.out]; exact hlt)
      rw [HRW.out, copyTo_set rows n k hlt HL.out] at hp
      have hbel2 := (hbel.trans (hf1.mono hsz)).setCell (p := ⟨G, k, none⟩) hbG (.slice ra2 ln2 rc2)
      go_roundg (n - k)
      case measure => omega
      case rel =>
        refine ⟨k + 1, by omega, by omega, by go_num, ⟨_, hp⟩, hbel2, ?_⟩
        have := hf1.size
        rw [Go.Deep.nblk_setCell]
        omega
    · obtain rfl : k = n := by omega
      have e : copyTo rows k k = rows := by unfold copyTo; rw [List.take_of_length_le (by rw [HL.out]; omega)]; simp
      rw [e] at hvs
      have HVS := Lib.hid hvs
      clear hvs e
      go_wp2_with fail
      go_ret
      exact ⟨⟨_, _, rfl, HVS.out⟩, hbel⟩
end Go.Proofs.YtokneabcgmjhdaaGreatDoor

/- Contract of num.Mod. -/
namespace Go.Proofs.YtokneabcgmjhdaaGreatDoor
open Go.RowKit
set_option linter.unusedVariables false
set_option linter.unusedSimpArgs false

theorem tmod_bd (n m : Int) (h : 1 ≤ m) : -m < n.tmod m ∧ n.tmod m < m := by
  have h1 := Int.tmod_lt_of_pos n (show 0 < m by omega)
  have h2 := Int.lt_tmod_of_pos n (show 0 < m by omega)
  exact ⟨h2, h1⟩

theorem tmod_emod (n m : Int) (h : 1 ≤ m) : (n.tmod m + m) % m = n % m := by
  rw [Int.add_emod_right, Int.tmod_def, Int.sub_emod, Int.mul_emod_right, Int.sub_zero, Int.emod_emod]

theorem Mod_any (n m : Int) (w : World) (h1 : -4000000000000000000 ≤ n) (h2 : n ≤ 4000000000000000000) (h3 : 1 ≤ m) (h4 : m ≤ 4000000000000000000):
    Calls Tryz.prog 113 #[.int .i64 n, .int .i64 m] w fun e w' => e = .returned (.int .i64 (n % m)) ∧ w = w' := by
  have hb := tmod_bd n m h3
  have HE := Lib.hid (tmod_emod n m h3)
  obtain ⟨hb1, hb2⟩ := hb
  go_enter Tryz.func113, Tryz.ntmps113
  go_wp2
  go_ret
  exact ⟨ret_int HE.out, rfl⟩

end Go.Proofs.YtokneabcgmjhdaaGreatDoor

/- Contracts of num.Field, num.Power, num.Over. -/
namespace Go.Proofs.YtokneabcgmjhdaaGreatDoor
open Go.RowKit
set_option linter.unusedVariables false
set_option linter.unusedSimpArgs false

theorem Field_any (n : Int) (w : World) (h1 : -4000000000000000000 ≤ n) (h2 : n ≤ 4000000000000000000) :
    Calls Tryz.prog 92 #[.int .i64 n] w fun e w' => e = .returned (.int .i64 (n % 9973)) ∧ w = w' := by
  have hM := fun W => Mod_any n 9973 W h1 h2 (by omega) (by omega)
  generalize n % 9973 = r at *
  go_enter Tryz.func92, Tryz.ntmps92
  go_wp2_with fail
  go_at_call 113
  refine (hM _).mono ?_
  rintro e w1 ⟨rfl, rfl⟩
  go_wp2_with fail
  go_ret
  exact ⟨rfl, rfl⟩

theorem pow_even (o x m : Nat) (h : m % 2 = 0) : (o * (x * x % 9973) ^ (m / 2)) % 9973 = (o * x ^ m) % 9973 := by
  have e : x ^ m = (x * x) ^ (m / 2) := by
    rw [← Nat.pow_two, ← Nat.pow_mul]; congr 1; omega
  rw [Nat.mul_mod, ← Nat.pow_mod, ← Nat.mul_mod, e]
theorem pow_odd (o x m : Nat) (h : m % 2 = 1) : ((o * x % 9973) * (x * x % 9973) ^ (m / 2)) % 9973 = (o * x ^ m) % 9973 := by
  have e : x ^ m = x * (x * x) ^ (m / 2) := by
    rw [← Nat.pow_two, ← Nat.pow_mul, ← Nat.pow_succ']; congr 1; omega
  rw [Nat.mul_mod, Nat.mod_mod, ← Nat.pow_mod, ← Nat.mul_mod, e, Nat.mul_assoc]
theorem Power_any (a n : Nat) (w : World) (ha : a < 9973) (hn : n ≤ 1000000) :
    Calls Tryz.prog 143 #[.int .i64 a, .int .i64 n] w fun e w' => e = .returned (.int .i64 ((a ^ n % 9973 : Nat) : Int)) ∧ w = w' := by
  obtain ⟨R, hR⟩ : ∃ R, R = a ^ n % 9973 := ⟨_, rfl⟩
  rw [← hR]
  have HR := Lib.hid hR
  clear hR
  go_enter Tryz.func143, Tryz.ntmps143
  go_wp2_with fail
  go_loopg [0, 1, 5] (n + 1) (fun g s t u wr => ∃ x m o : Nat, x < 9973 ∧ o < 9973 ∧ m ≤ n ∧ m < g ∧ s = .int .i64 x ∧ t = .int .i64 m ∧ u = .int .i64 o ∧ RowKit.Hid (R = o * x ^ m % 9973) ∧ wr = w)
  case atStart => exact ⟨a, n, 1, ha, by omega, by omega, by omega, rfl, rfl, rfl, Lib.hid (by rw [HR.out, Nat.one_mul]), rfl⟩
  case round =>
    obtain ⟨x, m, o, hx, ho, hm, hg, rfl, rfl, rfl, HI, rfl⟩ := hrel
    by_cases h0 : m = 0
    · subst h0
      have e : o = R := by rw [HI.out, Nat.pow_zero, Nat.mul_one, Nat.mod_eq_of_lt ho]
      have HE := Lib.hid e
      clear e
      go_wp2_with fail
      go_ret
      exact ⟨by rw [← HE.out]; rfl, rfl⟩
    · have hm0 : (0 : Int) < m := by omega
      have hr2 : (m : Int).tmod 2 = ((m % 2 : Nat) : Int) := by rw [Int.tmod_eq_emod_of_nonneg (by omega)]; omega
      have hd2 : (m : Int).tdiv 2 = ((m / 2 : Nat) : Int) := by rw [Int.tdiv_eq_ediv_of_nonneg (by omega)]; omega
      have hwr : IntKind.i64.wrap ((m % 2 : Nat) : Int) = ((m % 2 : Nat) : Int) := IntWalk.i64_in _ (by omega)
      have hwd : IntKind.i64.wrap ((m / 2 : Nat) : Int) = ((m / 2 : Nat) : Int) := IntWalk.i64_in _ (by omega)
      have hxx : x * x ≤ 9973 * 9973 := Nat.mul_le_mul (by omega) (by omega)
      have hox : o * x ≤ 9973 * 9973 := Nat.mul_le_mul (by omega) (by omega)
      have hxx' : (x : Int) * x = ((x * x : Nat) : Int) := by simp
      have hox' : (o : Int) * x = ((o * x : Nat) : Int) := by simp
      have HEV := Lib.hid (pow_even o x m)
      have HOD := Lib.hid (pow_odd o x m)
      obtain ⟨p, hp⟩ : ∃ p, p = x * x := ⟨_, rfl⟩
      obtain ⟨q, hq⟩ : ∃ q, q = o * x := ⟨_, rfl⟩
      rw [← hp] at hxx hxx' HEV HOD
      rw [← hq] at hox hox' HOD
      have hwp : IntKind.i64.wrap ((p : Nat) : Int) = p := IntWalk.i64_in _ (by omega)
      have hwq : IntKind.i64.wrap ((q : Nat) : Int) = q := IntWalk.i64_in _ (by omega)
      have hpm : (p : Int).tmod 9973 = ((p % 9973 : Nat) : Int) := by rw [Int.tmod_eq_emod_of_nonneg (by omega)]; omega
      have hqm : (q : Int).tmod 9973 = ((q % 9973 : Nat) : Int) := by rw [Int.tmod_eq_emod_of_nonneg (by omega)]; omega
      have hpw : IntKind.i64.wrap ((p % 9973 : Nat) : Int) = ((p % 9973 : Nat) : Int) := IntWalk.i64_in _ (by omega)
      have hqw : IntKind.i64.wrap ((q % 9973 : Nat) : Int) = ((q % 9973 : Nat) : Int) := IntWalk.i64_in _ (by omega)
      obtain ⟨p2, hp2⟩ : ∃ p2, p2 = p % 9973 := ⟨_, rfl⟩
      obtain ⟨q2, hq2⟩ : ∃ q2, q2 = q % 9973 := ⟨_, rfl⟩
      obtain ⟨m2, hm2⟩ : ∃ m2, m2 = m / 2 := ⟨_, rfl⟩
      have hp2l : p2 < 9973 := by omega
      have hq2l : q2 < 9973 := by omega
      have hm2l : m2 < m := by omega
      rw [← hp2] at hpm hpw HEV HOD
      rw [← hq2] at hqm hqw HOD
      rw [← hm2] at hd2 hwd HEV HOD
      by_cases hodd : m % 2 = 1
      · rw [hodd] at hr2 hwr
        have HN := Lib.hid (show R = q2 * p2 ^ m2 % 9973 by rw [HI.out, HOD.out hodd])
        clear hp hq hp2 hq2 hm2 hodd hxx hox
        go_wp2_with fail
        go_roundg m
        case measure => omega
        case rel => exact ⟨p2, m2, q2, hp2l, hq2l, by omega, by omega, rfl, rfl, rfl, HN, rfl⟩
      · have hev : m % 2 = 0 := by omega
        rw [hev] at hr2 hwr
        have HN := Lib.hid (show R = o * p2 ^ m2 % 9973 by rw [HI.out, HEV.out hev])
        clear hp hq hp2 hq2 hm2 hodd hxx hox hev
        go_wp2_with fail
        go_roundg m
        case measure => omega
        case rel => exact ⟨p2, m2, o, hp2l, ho, by omega, by omega, rfl, rfl, rfl, HN, rfl⟩
theorem Over_any (a : Nat) (w : World) (ha : a < 9973) :
    Calls Tryz.prog 131 #[.int .i64 a] w fun e w' => e = .returned (.int .i64 (invP a : Int)) ∧ w = w' := by
  have hP : ∀ W, Calls Tryz.prog 143 #[.int .i64 a, .int .i64 9971] W fun e w' => e = .returned (.int .i64 (invP a : Int)) ∧ W = w' := fun W => by
    have := Power_any a 9971 W ha (by omega)
    unfold invP powM
    exact this
  generalize invP a = r at *
  go_enter Tryz.func131, Tryz.ntmps131
  go_wp2_with fail
  go_at_call 143
  refine (hP _).mono ?_
  rintro e w1 ⟨rfl, rfl⟩
  go_wp2_with fail
  go_ret
  exact ⟨rfl, rfl⟩
end Go.Proofs.YtokneabcgmjhdaaGreatDoor

/- Memory of the fraction-free elimination: a matrix of the call's own, its box, and the box of the last pivot. -/
namespace Go.Proofs.YtokneabcgmjhdaaGreatDoor
open Go.RowKit
set_option linter.unusedVariables false
set_option linter.unusedSimpArgs false

def swapVs (vs : List Value) (i j : Nat) : List Value := (vs.set i (vs.getD j undef)).set j (vs.getD i undef)
theorem swapVs_getD {vs : List Value} {i j : Nat} (hi : i < vs.length) (hj : j < vs.length) (a : Nat) : (swapVs vs i j).getD a undef = vs.getD (sw i j a) undef := by
  unfold swapVs sw
  by_cases h1 : j = a
  · subst h1
    rw [getD_set_eq _ _ _ _ (by rw [List.length_set]; exact hj)]
    by_cases h2 : j = i
    · rw [if_pos h2, h2]
    · rw [if_neg h2, if_pos rfl]
  · rw [getD_set_ne _ _ _ _ _ h1]
    by_cases h2 : i = a
    · subst h2
      rw [getD_set_eq _ _ _ _ hi, if_pos rfl]
    · rw [getD_set_ne _ _ _ _ _ h2, if_neg (fun h => h2 h.symm), if_neg (fun h => h1 h.symm)]
theorem swapL_getD {A : List (List Int)} {i j : Nat} (hi : i < A.length) (hj : j < A.length) (a : Nat) : (swapL A i j).getD a [] = A.getD (sw i j a) [] := by
  unfold swapL sw
  by_cases h1 : j = a
  · subst h1
    rw [getD_set_eq _ _ _ _ (by rw [List.length_set]; exact hj)]
    by_cases h2 : j = i
    · rw [if_pos h2, h2]
    · rw [if_neg h2, if_pos rfl]
  · rw [getD_set_ne _ _ _ _ _ h1]
    by_cases h2 : i = a
    · subst h2
      rw [getD_set_eq _ _ _ _ hi, if_pos rfl]
    · rw [getD_set_ne _ _ _ _ _ h2, if_neg (fun h => h2 h.symm), if_neg (fun h => h1 h.symm)]
theorem sw_ne {i j a b : Nat} (h : a ≠ b) : sw i j a ≠ sw i j b := by
  intro he
  unfold sw at he
  by_cases h1 : a = i
  · rw [if_pos h1] at he
    by_cases h3 : b = i
    · omega
    · rw [if_neg h3] at he
      by_cases h4 : b = j
      · rw [if_pos h4] at he; omega
      · rw [if_neg h4] at he; omega
  · rw [if_neg h1] at he
    by_cases h2 : a = j
    · rw [if_pos h2] at he
      by_cases h3 : b = i
      · rw [if_pos h3] at he; omega
      · rw [if_neg h3] at he
        by_cases h4 : b = j
        · omega
        · rw [if_neg h4] at he; omega
    · rw [if_neg h2] at he
      by_cases h3 : b = i
      · rw [if_pos h3] at he; omega
      · rw [if_neg h3] at he
        by_cases h4 : b = j
        · rw [if_pos h4] at he; omega
        · rw [if_neg h4] at he; omega

/-- two rows of the call's own exchanged: row i's header first -/
theorem OwnRowsV.swap {w : World} {B G n cap : Nat} {vs : List Value} {A : List (List Int)} (h : OwnRowsV w B (.slice (some ⟨G, 0, none⟩) n cap) vs A) {i j : Nat} (hi : i < A.length) (hj : j < A.length) :
    OwnRowsV ((w.setCell ⟨G, i, none⟩ (vs.getD j undef)).setCell ⟨G, j, none⟩ (vs.getD i undef)) B (.slice (some ⟨G, 0, none⟩) n cap) (swapVs vs i j) (swapL A i j) := by
  obtain ⟨hV, hl, hr, hd⟩ := h
  have hn : n = vs.length := by
    rcases hV.2 with ⟨h1, _⟩ | ⟨g, cap', cur, h1, _⟩
    · simp at h1
    · simp at h1; exact h1.2.1
  subst hn
  have st := World.ownsRow.stored hV i (vs.getD j undef)
  have st2 := World.ownsRow.stored st.1 j (vs.getD i undef)
  have hi' : i < vs.length := by rw [hl]; exact hi
  have hj' : j < vs.length := by rw [hl]; exact hj
  have hlen : (swapVs vs i j).length = vs.length := by simp [swapVs]
  have hlen2 : (swapL A i j).length = A.length := by simp [swapL]
  refine ⟨?_, by rw [hlen, hlen2, hl], fun a ha => ?_, fun a b ha hb hab => ?_⟩
  · unfold OwnVals
    rw [hlen]
    exact st2.1
  · rw [hlen2] at ha
    rw [swapVs_getD hi' hj', swapL_getD hi hj]
    have hs : sw i j a < A.length := sw_lt hi hj ha
    have hne := own_ne (hr _ hs) hV
    exact ((hr _ hs).kept st.2 hne).kept st2.2 hne
  · rw [hlen2] at ha hb
    rw [swapVs_getD hi' hj', swapVs_getD hi' hj']
    exact hd _ _ (sw_lt hi hj ha) (sw_lt hi hj hb) (sw_ne hab)

/-- the state of memory -/
structure BMem (w wr : World) (B Bl G n : Nat) (vs : List Value) (T : List (List Int)) (L : Int) : Prop where
  own : OwnRowsV wr B (.slice (some ⟨G, 0, none⟩) n n) vs T
  bd : RowsBelow Bl (.slice (some ⟨G, 0, none⟩) n n) vs
  box : wr.cell? ⟨w.heap.size, 0, none⟩ = some (.slice (some ⟨G, 0, none⟩) n n)
  last : wr.cell? ⟨Bl, 0, none⟩ = some (.int .i64 L)
  free : wr.frozen? ⟨Bl, 0, none⟩ = false
  bel : Below w.heap.size w wr
  hB : w.heap.size < B
  hBl : B ≤ Bl
  sq : Sq n T

theorem BMem.call {w wr w2 : World} {B Bl G n : Nat} {vs : List Value} {T : List (List Int)} {L : Int} (h : BMem w wr B Bl G n vs T L) (hb : Below wr.heap.size wr w2) : BMem w w2 B Bl G n vs T L :=
  ⟨h.own.call hb, h.bd, by rw [hb.cell (p := ⟨w.heap.size, 0, none⟩) (World.block_lt_of_cell? _ _ h.box)]; exact h.box, by rw [hb.cell (p := ⟨Bl, 0, none⟩) (World.block_lt_of_cell? _ _ h.last)]; exact h.last,
    by rw [hb.frozen (p := ⟨Bl, 0, none⟩) (World.block_lt_of_cell? _ _ h.last)]; exact h.free, h.bel.trans (hb.mono h.bel.size), h.hB, h.hBl, h.sq⟩

theorem BMem.at {w wr : World} {B Bl G n : Nat} {vs : List Value} {T : List (List Int)} {L : Int} (h : BMem w wr B Bl G n vs T L) {i j : Nat} (hi : i < n) (hj : j < n) :
    ∃ g rc, wr.cell? ⟨G, i, none⟩ = some (.slice (some ⟨g, 0, none⟩) n rc) ∧ vs.getD i undef = .slice (some ⟨g, 0, none⟩) n rc ∧ wr.frozen? ⟨g, j, none⟩ = false ∧ wr.cell? ⟨g, j, none⟩ = some (.int .i64 (fn T i j)) ∧
      ∀ x, BMem w (wr.setCell ⟨g, j, none⟩ (.int .i64 x)) B Bl G n vs (putE T i j x) L := by
  obtain ⟨g, rc, h1, h2, h3, h4, h5, h6, h7, h8⟩ := h.own.at h.sq hi hj
  have hgl : g < Bl := h.bd.2 i g (by rw [h5]; rfl)
  have hB := h.hB
  refine ⟨g, rc, h1, h5, h6, h7, fun x => ⟨h8 x, h.bd, ?_, ?_, by rw [World.frozen?_setCell]; exact h.free, h.bel.setCell (p := ⟨g, j, none⟩) (by show w.heap.size ≤ g; omega) _, h.hB, h.hBl, put_sq h.sq _ _ _⟩⟩
  · exact (grown_setCell wr g j _).cell h.box (by intro he; have he := Option.some.inj he; dsimp only at he; omega)
  · exact (grown_setCell wr g j _).cell h.last (by intro he; have he := Option.some.inj he; dsimp only at he; omega)
theorem BMem.base {w wr : World} {B Bl G n : Nat} {vs : List Value} {T : List (List Int)} {L : Int} (h : BMem w wr B Bl G n vs T L) : B ≤ G ∧ G < Bl := ⟨h.own.base.1, h.bd.1 G rfl⟩
theorem BMem.swap {w wr : World} {B Bl G n : Nat} {vs : List Value} {T : List (List Int)} {L : Int} (h : BMem w wr B Bl G n vs T L) {i j : Nat} (hi : i < n) (hj : j < n) :
    BMem w ((wr.setCell ⟨G, i, none⟩ (vs.getD j undef)).setCell ⟨G, j, none⟩ (vs.getD i undef)) B Bl G n (swapVs vs i j) (swapL T i j) L := by
  have hl := h.sq.1
  have hvl : vs.length = n := by rw [h.own.2.1, hl]
  obtain ⟨hG1, hG2⟩ := h.base
  have hB := h.hB
  refine ⟨h.own.swap (by omega) (by omega), ⟨h.bd.1, fun a k hk => ?_⟩, ?_, ?_, by rw [World.frozen?_setCell, World.frozen?_setCell]; exact h.free, ?_, h.hB, h.hBl, sq_swap h.sq hi hj⟩
  · rw [swapVs_getD (by omega) (by omega)] at hk
    exact h.bd.2 _ k hk
  · exact (grown_setCell _ G j _).cell ((grown_setCell wr G i _).cell h.box (by intro he; have he := Option.some.inj he; dsimp only at he; omega)) (by intro he; have he := Option.some.inj he; dsimp only at he; omega)
  · exact (grown_setCell _ G j _).cell ((grown_setCell wr G i _).cell h.last (by intro he; have he := Option.some.inj he; dsimp only at he; omega)) (by intro he; have he := Option.some.inj he; dsimp only at he; omega)
  · exact (h.bel.setCell (p := ⟨G, i, none⟩) (by show w.heap.size ≤ G; omega) _).setCell (p := ⟨G, j, none⟩) (by show w.heap.size ≤ G; omega) _
theorem BMem.setLast {w wr : World} {B Bl G n : Nat} {vs : List Value} {T : List (List Int)} {L : Int} (h : BMem w wr B Bl G n vs T L) (x : Int) : BMem w (wr.setCell ⟨Bl, 0, none⟩ (.int .i64 x)) B Bl G n vs T x := by
  have hB := h.hB
  have hBl := h.hBl
  refine ⟨h.own.storeHigh h.bd (Nat.le_refl _) 0 _, h.bd, ?_, World.cell?_setCell_same' _ _ _ (by rw [h.last]; rfl), by rw [World.frozen?_setCell]; exact h.free, h.bel.setCell (p := ⟨Bl, 0, none⟩) (by show w.heap.size ≤ Bl; omega) _, h.hB, h.hBl, h.sq⟩
  exact (grown_setCell wr Bl 0 _).cell h.box (by intro he; have he := Option.some.inj he; dsimp only at he; omega)
theorem BMem.store {w wr : World} {B Bl G n : Nat} {vs : List Value} {T : List (List Int)} {L : Int} (h : BMem w wr B Bl G n vs T L) {i j g rc : Nat} (hi : i < n) (hj : j < n) (hg : vs.getD i undef = .slice (some ⟨g, 0, none⟩) n rc) (x : Int) :
    BMem w (wr.setCell ⟨g, j, none⟩ (.int .i64 x)) B Bl G n vs (putE T i j x) L := by
  obtain ⟨g', rc', _, h1, _, _, h2⟩ := h.at hi hj
  rw [hg] at h1
  obtain rfl : g = g' := by simp at h1; exact h1.1
  exact h2 x
/-- a row's header -/
theorem BMem.head {w wr : World} {B Bl G n : Nat} {vs : List Value} {T : List (List Int)} {L : Int} (h : BMem w wr B Bl G n vs T L) {i : Nat} (hi : i < n) : wr.cell? ⟨G, i, none⟩ = some (vs.getD i undef) ∧ wr.frozen? ⟨G, i, none⟩ = false :=
  ⟨h.own.isCell (by rw [h.sq.1]; exact hi), h.own.free i⟩
end Go.Proofs.YtokneabcgmjhdaaGreatDoor

