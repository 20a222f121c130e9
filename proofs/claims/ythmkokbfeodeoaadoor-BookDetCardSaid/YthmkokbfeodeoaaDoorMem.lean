/- What the walks know of memory: lists of integers and of rows, read or owned; classes of worlds. No function of the program. -/
import Derived.Test.YthmkokbfeodeoaaDoorRows
import Derived.WalkKit
import Derived.Lib.Hide
import Derived.Outline
import Derived.OneCell
import Derived.Deep.Heap
import Derived.Deep.Quiet
import Derived.Deep.Matrix
import Derived.Laws.AppendOwnNone
namespace Go.Proofs.YthmkokbfeodeoaaDoor
open Go.RowKit
set_option linter.unusedVariables false
set_option linter.unusedSimpArgs false

theorem info_int : (Tryd.prog.info? 3).map (fun i => (i.zero, i.size, i.bytes)) = some (some (.int .i64 0), 1, 8) := by kernel_rfl
theorem info_ints : (Tryd.prog.info? 35).map (fun i => (i.zero, i.size, i.bytes)) = some (some (.slice none 0 0), 1, 24) := by kernel_rfl

theorem ret_int {k : IntKind} {a b : Int} (h : a = b) : Ending.returned (.int k a) = .returned (.int k b) := by rw [h]
theorem ret_bool {a b : Bool} (h : a = b) : Ending.returned (.bool a) = .returned (.bool b) := by rw [h]

/-- what a Below of a fixed base gives the walk: two rewrite rules -/
theorem rules {N : Nat} {W w1 : World} (hb : Below N W w1) : (∀ b o, b < N → w1.cell? ⟨b, o, none⟩ = W.cell? ⟨b, o, none⟩) ∧ (∀ b o, b < N → w1.frozen? ⟨b, o, none⟩ = W.frozen? ⟨b, o, none⟩) :=
  ⟨fun b o h => hb.cell (p := ⟨b, o, none⟩) h, fun b o h => hb.frozen (p := ⟨b, o, none⟩) h⟩

/-- one call more over a fixed base -/
theorem step_below {N : Nat} {E w1 w2 : World} (hB : Below N E w1) (hN : N ≤ E.heap.size) (hb : Below w1.heap.size w1 w2) : Below N E w2 :=
  hB.trans (hb.mono (by have := hB.size; omega))
theorem below_trans {w w1 w2 : World} (hB : Below w.heap.size w w1) (hb : Below w1.heap.size w1 w2) : Below w.heap.size w w2 := step_below hB (Nat.le_refl _) hb

/-- the class of worlds in which all blocks below N are as in W -/
def Cls (N : Nat) (W w' : World) : Prop := Below N W w'
theorem Cls.start {N : Nat} {W : World} : Cls N W { W with drawn := W.drawn + 1 } := ⟨rfl, rfl, rfl, Nat.le_refl _, fun _ _ => rfl⟩
theorem Cls.call {P : Program} {f : FuncId} {args : Array Value} {w : World} {v : Value} {N : Nat} {W : World} (hC : Cls N W w) (hN : N ≤ W.heap.size)
    (h : Calls P f args w fun e w' => e = .returned v ∧ Below w.heap.size w w') : Calls P f args w fun e w'' => e = .returned v ∧ Cls N W w'' :=
  h.mono fun _ _ ⟨he, hb⟩ => ⟨he, step_below hC hN hb⟩
theorem Cls.callSame {P : Program} {f : FuncId} {args : Array Value} {w : World} {v : Value} {N : Nat} {W : World} (hC : Cls N W w)
    (h : Calls P f args w fun e w' => e = .returned v ∧ w = w') : Calls P f args w fun e w'' => e = .returned v ∧ Cls N W w'' :=
  h.mono fun _ _ ⟨he, hb⟩ => ⟨he, hb ▸ hC⟩
theorem Cls.rules {N : Nat} {W w1 : World} (hb : Cls N W w1) : (∀ b o, b < N → w1.cell? ⟨b, o, none⟩ = W.cell? ⟨b, o, none⟩) ∧ (∀ b o, b < N → w1.frozen? ⟨b, o, none⟩ = W.frozen? ⟨b, o, none⟩) :=
  Go.Proofs.YthmkokbfeodeoaaDoor.rules (show Below N W w1 from hb)

/-- the n integers xs lie at address a -/
def IntsAt (w : World) (a : Option Addr) (n : Nat) (xs : List Int) : Prop :=
  xs.length = n ∧ ∀ i, i < n → ∃ b off, a = some ⟨b, off, none⟩ ∧ w.cell? ⟨b, off + i, none⟩ = some (.int .i64 (xs.getD i 0))

theorem IntsAt.below {N : Nat} {w w' : World} {a : Option Addr} {n : Nat} {xs : List Int} (h : IntsAt w a n xs) (hb : Below N w w') (hN : ∀ x, a = some x → x.block < N) : IntsAt w' a n xs := by
  refine ⟨h.1, fun i hi => ?_⟩
  obtain ⟨b, off, ha, hc⟩ := h.2 i hi
  exact ⟨b, off, ha, by rw [hb.cell (p := ⟨b, off + i, none⟩) (hN ⟨b, off, none⟩ ha)]; exact hc⟩
theorem IntsAt.call {w w' : World} {a : Option Addr} {n : Nat} {xs : List Int} (h : IntsAt w a n xs) (hb : Below w.heap.size w w') : IntsAt w' a n xs := by
  refine ⟨h.1, fun i hi => ?_⟩
  obtain ⟨b, off, ha, hc⟩ := h.2 i hi
  exact ⟨b, off, ha, by rw [hb.cell (p := ⟨b, off + i, none⟩) (World.block_lt_of_cell? _ _ hc)]; exact hc⟩
theorem IntsAt.nil (w : World) (a : Option Addr) : IntsAt w a 0 [] := ⟨rfl, fun i hi => absurd hi (Nat.not_lt_zero i)⟩
/-- where there is an element there is a block -/
theorem IntsAt.some {w : World} {a : Option Addr} {n : Nat} {xs : List Int} (h : IntsAt w a n xs) (hn : 0 < n) :
    ∃ b off, a = Option.some ⟨b, off, none⟩ ∧ b < w.heap.size ∧ ∀ i, i < n → w.cell? ⟨b, off + i, none⟩ = Option.some (.int .i64 (xs.getD i 0)) := by
  obtain ⟨b, off, ha, hc⟩ := h.2 0 hn
  refine ⟨b, off, ha, World.block_lt_of_cell? _ _ hc, fun i hi => ?_⟩
  obtain ⟨b', off', ha', hc'⟩ := h.2 i hi
  rw [ha] at ha'
  obtain ⟨rfl, rfl⟩ : b = b' ∧ off = off' := by simpa using ha'
  exact hc'

/-- the n rows lie at address a; each of them reads as its list -/
def RowsAt (w : World) (a : Option Addr) (n : Nat) (rows : List (List Int)) : Prop :=
  rows.length = n ∧ ∀ i, i < n → ∃ b off ra rc, a = some ⟨b, off, none⟩ ∧ w.cell? ⟨b, off + i, none⟩ = some (.slice ra (rows.getD i []).length rc) ∧
    (rows.getD i []).length ≤ rc ∧ rc ≤ maxLen ∧ (ra = none → rc = 0) ∧ IntsAt w ra (rows.getD i []).length (rows.getD i [])

theorem RowsAt.call {w w' : World} {a : Option Addr} {n : Nat} {rows : List (List Int)} (h : RowsAt w a n rows) (hb : Below w.heap.size w w') : RowsAt w' a n rows := by
  refine ⟨h.1, fun i hi => ?_⟩
  obtain ⟨b, off, ra, rc, ha, hc, h1, h2, h2', h3⟩ := h.2 i hi
  exact ⟨b, off, ra, rc, ha, by rw [hb.cell (p := ⟨b, off + i, none⟩) (World.block_lt_of_cell? _ _ hc)]; exact hc, h1, h2, h2', h3.call hb⟩
theorem RowsAt.nil (w : World) (a : Option Addr) : RowsAt w a 0 [] := ⟨rfl, fun i hi => absurd hi (Nat.not_lt_zero i)⟩
theorem RowsAt.some {w : World} {a : Option Addr} {n : Nat} {rows : List (List Int)} (h : RowsAt w a n rows) (hn : 0 < n) : ∃ b off, a = Option.some ⟨b, off, none⟩ ∧ b < w.heap.size := by
  obtain ⟨b, off, ra, rc, ha, hc, h1, h2, h2', h3⟩ := h.2 0 hn
  exact ⟨b, off, ha, World.block_lt_of_cell? _ _ hc⟩
theorem RowsAt.row {w : World} {b off : Nat} {n : Nat} {rows : List (List Int)} (h : RowsAt w (Option.some ⟨b, off, none⟩) n rows) {i : Nat} (hi : i < n) :
    ∃ ra rc, w.cell? ⟨b, off + i, none⟩ = Option.some (.slice ra (rows.getD i []).length rc) ∧ (rows.getD i []).length ≤ rc ∧ rc ≤ maxLen ∧ (ra = none → rc = 0) ∧ IntsAt w ra (rows.getD i []).length (rows.getD i []) := by
  obtain ⟨b', off', ra, rc, ha, hc, h1, h2, h2', h3⟩ := h.2 i hi
  obtain ⟨rfl, rfl⟩ : b = b' ∧ off = off' := by simpa using ha
  exact ⟨ra, rc, hc, h1, h2, h2', h3⟩

/-- v owns the integers xs, in a block from B on -/
def OwnInts (w : World) (B : Nat) (v : Value) (xs : List Int) : Prop := w.ownsRow B 3 1 v xs.length (xs.map (.int .i64))
/-- v owns the row of slices vs -/
def OwnVals (w : World) (B : Nat) (v : Value) (vs : List Value) : Prop := w.ownsRow B 35 1 v vs.length vs
/-- v owns the rows, and each row its integers; the rows' blocks are all unlike -/
def OwnRows (w : World) (B : Nat) (v : Value) (rows : List (List Int)) : Prop :=
  ∃ vs : List Value, OwnVals w B v vs ∧ vs.length = rows.length ∧ (∀ i, i < rows.length → OwnInts w B (vs.getD i undef) (rows.getD i [])) ∧
    ∀ i j, i < rows.length → j < rows.length → i ≠ j → (vs.getD i undef).ownBlock = none ∨ (vs.getD i undef).ownBlock ≠ (vs.getD j undef).ownBlock

theorem OwnInts.shape {w : World} {B : Nat} {v : Value} {xs : List Int} (h : OwnInts w B v xs) : ∃ a cap, v = .slice a xs.length cap ∧ xs.length ≤ cap ∧ cap ≤ maxLen ∧ (a = none → cap = 0) ∧ IntsAt w a xs.length xs := by
  rcases h.2 with ⟨rfl, hn⟩ | ⟨g, cap, cur, rfl, hg, hb, h1, h2, h3, h4⟩
  · exact ⟨none, 0, by rw [hn], by omega, by simp [maxLen], fun _ => rfl, by rw [List.length_eq_zero_iff] at hn; subst hn; exact IntsAt.nil _ _⟩
  · refine ⟨_, cap, rfl, h1, h2, (fun h => by cases h), rfl, fun i hi => ⟨g, 0, rfl, ?_⟩⟩
    have hh : w.ownsRow B 3 1 (.slice (Option.some ⟨g, 0, none⟩) xs.length cap) xs.length (xs.map (.int .i64)) := h
    have := hh.cellAt i (by omega)
    rw [Nat.zero_add, this]
    simp [hi, List.getD]

theorem OwnVals.cell {w : World} {B : Nat} {v : Value} {vs : List Value} (h : OwnVals w B v vs) : ∃ a cap, v = .slice a vs.length cap ∧ vs.length ≤ cap ∧ cap ≤ maxLen ∧ ∀ i, i < vs.length → ∃ g, a = Option.some ⟨g, 0, none⟩ ∧ w.cell? ⟨g, i, none⟩ = Option.some (vs.getD i undef) := by
  rcases h.2 with ⟨rfl, hn⟩ | ⟨g, cap, cur, rfl, hg, hb, h1, h2, h3, h4⟩
  · exact ⟨none, 0, by rw [hn], by omega, by simp [maxLen], fun i hi => by omega⟩
  · refine ⟨_, cap, rfl, h1, h2, fun i hi => ⟨g, rfl, ?_⟩⟩
    have hh : w.ownsRow B 35 1 (.slice (Option.some ⟨g, 0, none⟩) vs.length cap) vs.length vs := h
    rw [hh.cellAt i (by omega)]
    simp [hi, List.getD]

theorem OwnRows.rowsAt {w : World} {B : Nat} {v : Value} {rows : List (List Int)} (h : OwnRows w B v rows) : ∃ a cap, v = .slice a rows.length cap ∧ rows.length ≤ cap ∧ cap ≤ maxLen ∧ RowsAt w a rows.length rows := by
  obtain ⟨vs, h1, h2, h3, h4⟩ := h
  obtain ⟨a, cap, rfl, h5, h6, h7⟩ := h1.cell
  rw [h2] at *
  refine ⟨a, cap, rfl, h5, h6, rfl, fun i hi => ?_⟩
  obtain ⟨g, hg, hc⟩ := h7 i hi
  obtain ⟨ra, rc, e, e1, e2, e2', e3⟩ := (h3 i hi).shape
  exact ⟨g, 0, ra, rc, hg, by rw [Nat.zero_add, hc, e], e1, e2, e2', e3⟩

/-- a row of integers and a row of slices are two blocks -/
theorem own_ne {w : World} {B B' : Nat} {v v' : Value} {xs : List Int} {vs : List Value} (h : OwnInts w B v xs) (k : OwnVals w B' v' vs) : v.ownBlock = none ∨ v.ownBlock ≠ v'.ownBlock := by
  rcases h.2 with ⟨rfl, hn⟩ | ⟨g, cap, cur, rfl, hg, hb, h1, h2, h3, h4⟩
  · exact Or.inl rfl
  · rcases k.2 with ⟨rfl, kn⟩ | ⟨g', cap', cur', rfl, kg, kb, k1, k2, k3, k4⟩
    · exact Or.inr (by simp [Value.ownBlock])
    · refine Or.inr ?_
      simp only [Value.ownBlock, ne_eq, Option.some.injEq]
      rintro rfl
      rw [hb] at kb
      simp at kb

theorem OwnInts.kept {w w' : World} {B : Nat} {v : Value} {xs : List Int} {row : Option Nat} (h : OwnInts w B v xs) (hg : w.grownBy w' row) (hne : v.ownBlock = none ∨ v.ownBlock ≠ row) : OwnInts w' B v xs := World.ownsRow.kept h hg hne
theorem OwnVals.kept {w w' : World} {B : Nat} {v : Value} {vs : List Value} {row : Option Nat} (h : OwnVals w B v vs) (hg : w.grownBy w' row) (hne : v.ownBlock = none ∨ v.ownBlock ≠ row) : OwnVals w' B v vs := World.ownsRow.kept h hg hne
theorem below_grown {w w' : World} (hb : Below w.heap.size w w') : w.grownBy w' none := ⟨hb.os, hb.tape, hb.output, hb.size, fun k hk _ => hb.block k hk⟩
theorem OwnInts.call {w w' : World} {B : Nat} {v : Value} {xs : List Int} (h : OwnInts w B v xs) (hb : Below w.heap.size w w') : OwnInts w' B v xs := by
  refine h.kept (below_grown hb) ?_
  cases hv : v.ownBlock <;> simp
theorem OwnVals.call {w w' : World} {B : Nat} {v : Value} {vs : List Value} (h : OwnVals w B v vs) (hb : Below w.heap.size w w') : OwnVals w' B v vs := by
  refine h.kept (below_grown hb) ?_
  cases hv : v.ownBlock <;> simp
theorem OwnRows.call {w w' : World} {B : Nat} {v : Value} {rows : List (List Int)} (h : OwnRows w B v rows) (hb : Below w.heap.size w w') : OwnRows w' B v rows := by
  obtain ⟨vs, h1, h2, h3, h4⟩ := h
  exact ⟨vs, h1.call hb, h2, fun i hi => (h3 i hi).call hb, h4⟩

/-- append to what the call owns, whatever the source: nil, empty, a part -/
theorem wpList_append_own1 {P : Program} {w : World} {ops : Array Oper} {rest : List Oper} {o : Oper} {a : Act} {Q : Exit → Act → World → Prop} (hgd : o.guard = none) (s x : Operand) (t : TypeId)
    (ho : o.op = .call { callee := .builtin .append, args := #[s, x], argTypes := #[t, t] })
    (base : Nat) (e : TypeId) (i : TypeInfo) (z : Value) (bytes : Nat) (ht : P.underlying t = some (.slice e)) (hi : P.info? e = some i) (hz : i.zero = some z)
    (hsize : i.size = 1) (hby : i.bytes = bytes) (hzs : z.cells.size = 1)
    (v : Value) (n : Nat) (xs : List Value) (hs : a.eval s = v) (hown : w.ownsRow base e 1 v n xs)
    (ad : Option Addr) (m c : Nat) (news : List Value) (hx : a.eval x = .slice ad m c) (hl : news.length = m) (hc : ad = none → c = 0) (hnews : ∀ j u, news[j]? = some u → ∃ ad', ad = some ad' ∧ w.cell? (ad'.add j) = some u) (h1 : ∀ u ∈ news, u.oneCell' = true)
    (h63 : n + m ≤ maxLen) (hbytes : (n + m) * bytes ≤ 140737488355328) (hbase : base ≤ w.heap.size)
    (h : ∀ v' w', w'.ownsRow base e 1 v' (n + m) (xs ++ news) → w.grownBy w' v.ownBlock → wpList P ops Q rest (a.put o.dst v') w') : wpList P ops Q (o :: rest) a w := by
  cases ad with
  | some ad =>
    exact wpList_append_own w hgd s x t ho base e i z 1 bytes ht hi hz hsize hby hzs (by decide) v n xs hs hown ad m c news hx (by omega)
      (fun j u hj => by obtain ⟨ad', e1, e2⟩ := hnews j u hj; cases e1; exact e2) h1 h63 hbytes hbase (fun v' w' h2 h3 _ => h v' w' h2 h3)
  | none =>
    have hn : news = [] := by
      cases news with
      | nil => rfl
      | cons u r =>
        obtain ⟨ad', h1, h2⟩ := hnews 0 u rfl
        cases h1
    subst hn
    obtain rfl : m = 0 := by simpa using hl.symm
    obtain rfl : c = 0 := hc rfl
    exact wpList_append_own_none hgd s x t ho base e i 1 ht hi v n xs hs hown hx (h v w (by simpa using hown) (World.grownBy.refl _ _))

/-- rows whose slices are named -/
def OwnRowsV (w : World) (B : Nat) (v : Value) (vs : List Value) (rows : List (List Int)) : Prop :=
  OwnVals w B v vs ∧ vs.length = rows.length ∧ (∀ i, i < rows.length → OwnInts w B (vs.getD i undef) (rows.getD i [])) ∧
    ∀ i j, i < rows.length → j < rows.length → i ≠ j → (vs.getD i undef).ownBlock = none ∨ (vs.getD i undef).ownBlock ≠ (vs.getD j undef).ownBlock
theorem OwnRows.vals {w : World} {B : Nat} {v : Value} {rows : List (List Int)} (h : OwnRows w B v rows) : ∃ vs, OwnRowsV w B v vs rows := h
theorem OwnRowsV.rows {w : World} {B : Nat} {v : Value} {vs : List Value} {rows : List (List Int)} (h : OwnRowsV w B v vs rows) : OwnRows w B v rows := ⟨vs, h⟩
theorem OwnRows.nil (w : World) (B : Nat) : OwnRows w B (.slice none 0 0) [] := ⟨[], World.ownsRow_nil _ _ _ _, rfl, fun i hi => absurd hi (Nat.not_lt_zero i), fun i j hi => absurd hi (Nat.not_lt_zero i)⟩

theorem grown_below {w w' : World} {B : Nat} {row : Option Nat} (hg : w.grownBy w' row) (hB : B ≤ w.heap.size) (hr : ∀ k, row = some k → B ≤ k) : Below B w w' := (Below.refl B w).grown hg hB hr

/-- two appends that make a new row: all that was there is as it was -/
theorem fresh2 {w w1 w2 : World} {v1 : Value} {n : Nat} {xs : List Value} (h1 : w.grownBy w1 none) (ho : w1.ownsRow w.heap.size 3 1 v1 n xs) (h2 : w1.grownBy w2 v1.ownBlock) : Below w.heap.size w w2 :=
  (grown_below h1 (Nat.le_refl _) (fun k hk => by cases hk)).trans (grown_below h2 (h1.size) (fun k hk => (ho.lt k hk).1))
theorem fresh1 {w w1 : World} (h1 : w.grownBy w1 none) : Below w.heap.size w w1 := grown_below h1 (Nat.le_refl _) (fun k hk => by cases hk)

theorem ownBlock_lt {w : World} {B : Nat} {e : TypeId} {v : Value} {n : Nat} {xs : List Value} (h : w.ownsRow B e 1 v n xs) {k : Nat} (hk : v.ownBlock = some k) : B ≤ k ∧ k < w.heap.size := h.lt k hk

/-- a new row appended to rows -/
theorem OwnRowsV.snoc {w w2 w3 : World} {B : Nat} {out v2 v3 : Value} {vs : List Value} {rows : List (List Int)} {xs : List Int} {o : Obj} (h : OwnRowsV w B out vs rows) (hB : B ≤ w.heap.size) (hb : Below w.heap.size w w2)
    (hv : OwnInts w2 w.heap.size v2 xs) (h3 : w3.ownsRow B 35 1 v3 (vs.length + 1) (vs ++ [v2])) (hg : (w2.alloc o).grownBy w3 out.ownBlock) : OwnRows w3 B v3 (rows ++ [xs]) := by
  obtain ⟨hV, hl, hrows, hdis⟩ := h
  have hba : Below w.heap.size w (w2.alloc o) := hb.alloc hb.size o
  have hVa : OwnVals (w2.alloc o) B out vs := hV.call hba
  have hva : OwnInts (w2.alloc o) w.heap.size v2 xs := World.ownsRow.alloc hv o
  have hva' : OwnInts (w2.alloc o) B v2 xs := by
    refine ⟨hva.1, ?_⟩
    rcases hva.2 with h | ⟨g, cap, cur, h1, h2, h3⟩
    · exact Or.inl h
    · exact Or.inr ⟨g, cap, cur, h1, by omega, h3⟩
  refine ⟨vs ++ [v2], ?_, by simp [hl], ?_, ?_⟩
  · have : (vs ++ [v2]).length = vs.length + 1 := by simp
    unfold OwnVals
    rw [this]
    exact h3
  · intro i hi
    simp only [List.length_append, List.length_cons, List.length_nil] at hi
    by_cases h : i < rows.length
    · have e1 : (vs ++ [v2]).getD i undef = vs.getD i undef := by simp [List.getD, List.getElem?_append_left (show i < vs.length by omega)]
      have e2 : (rows ++ [xs]).getD i [] = rows.getD i [] := by simp [List.getD, List.getElem?_append_left h]
      rw [e1, e2]
      have hk := (hrows i h).call hba
      exact hk.kept hg (own_ne hk hVa)
    · have hi' : i = rows.length := by omega
      have e1 : (vs ++ [v2]).getD i undef = v2 := by rw [hi', ← hl]; simp [List.getD]
      have e2 : (rows ++ [xs]).getD i [] = xs := by rw [hi']; simp [List.getD]
      rw [e1, e2]
      exact hva'.kept hg (own_ne hva' hVa)
  · intro i j hi hj hij
    simp only [List.length_append, List.length_cons, List.length_nil] at hi hj
    have old : ∀ i, i < rows.length → ∀ k, (vs.getD i undef).ownBlock = some k → k < w.heap.size := fun i h k hk => ((hrows i h).lt k hk).2
    have new : ∀ k, v2.ownBlock = some k → w.heap.size ≤ k := fun k hk => (hv.lt k hk).1
    have e1 : ∀ i, i < rows.length → (vs ++ [v2]).getD i undef = vs.getD i undef := fun i h => by simp [List.getD, List.getElem?_append_left (show i < vs.length by omega)]
    have e2 : ∀ i, ¬ i < rows.length → i < rows.length + 1 → (vs ++ [v2]).getD i undef = v2 := fun i h h' => by
      have : i = vs.length := by omega
      rw [this]; simp [List.getD]
    by_cases h : i < rows.length <;> by_cases h' : j < rows.length
    · rw [e1 i h, e1 j h']; exact hdis i j h h' hij
    · rw [e1 i h, e2 j h' (by omega)]
      cases hk : (vs.getD i undef).ownBlock with
      | none => exact Or.inl rfl
      | some k =>
        refine Or.inr fun he => ?_
        have := old i h k hk
        have := new k he.symm
        omega
    · rw [e2 i h (by omega), e1 j h']
      cases hk : v2.ownBlock with
      | none => exact Or.inl rfl
      | some k =>
        refine Or.inr fun he => ?_
        have := new k hk
        have := old j h' k he.symm
        omega
    · omega

theorem OwnInts.isSlice {w : World} {B : Nat} {v : Value} {n : Nat} {xs : List Value} (h : w.ownsRow B 3 1 v n xs) : ∃ a l c, v = .slice a l c := by
  rcases h.2 with ⟨rfl, hn⟩ | ⟨g, cap, cur, rfl, hg, hb, h1, h2, h3, h4⟩ <;> exact ⟨_, _, _, rfl⟩
theorem OwnVals.isSlice {w : World} {B : Nat} {v : Value} {n : Nat} {xs : List Value} (h : w.ownsRow B 35 1 v n xs) : ∃ a l c, v = .slice a l c := by
  rcases h.2 with ⟨rfl, hn⟩ | ⟨g, cap, cur, rfl, hg, hb, h1, h2, h3, h4⟩ <;> exact ⟨_, _, _, rfl⟩
/-- one new cell -/
theorem one_new (w : World) (v : Value) (T : TypeId) : ∀ j u, [v][j]? = some u → ∃ ad', some (⟨w.heap.size, 0, none⟩ : Addr) = some ad' ∧ (w.alloc (.cells #[v] T)).cell? (ad'.add j) = some u := by
  intro j u hj
  match j, hj with
  | 0, hj =>
    simp at hj
    subst hj
    exact ⟨_, rfl, by rw [Go.WideShapes.add_plain]; simp⟩
theorem one_slice (a : Option Addr) (l c : Nat) : ∀ u ∈ [Value.slice a l c], u.oneCell' = true := by
  intro u hu
  simp at hu
  subst hu
  rfl
theorem one_int (k : IntKind) (x : Int) : ∀ u ∈ [Value.int k x], u.oneCell' = true := by
  intro u hu
  simp at hu
  subst hu
  rfl
theorem le_alloc {B : Nat} {w : World} (h : B ≤ w.heap.size) (o : Obj) : B ≤ (w.alloc o).heap.size := by simp; omega

theorem getD_set_eq {α : Type} (l : List α) (k : Nat) (x d : α) (h : k < l.length) : (l.set k x).getD k d = x := by simp [List.getD, h]
theorem getD_set_ne {α : Type} (l : List α) (k i : Nat) (x d : α) (h : k ≠ i) : (l.set k x).getD i d = l.getD i d := by simp [List.getD, List.getElem?_set_ne h]

theorem ownInts_mono {w : World} {B B' : Nat} {v : Value} {xs : List Int} (h : OwnInts w B' v xs) (hB : B ≤ B') : OwnInts w B v xs := by
  refine ⟨h.1, ?_⟩
  rcases h.2 with h | ⟨g, cap, cur, h1, h2, h3⟩
  · exact Or.inl h
  · exact Or.inr ⟨g, cap, cur, h1, by omega, h3⟩

/-- a store into one block of the call's own -/
theorem below_store {B : Nat} {w : World} (g j : Nat) (u : Value) (hg : B ≤ g) : Below B w (w.setCell ⟨g, j, none⟩ u) := (Below.refl B w).setCell hg u

/-- a new row put at place k of the rows -/
theorem OwnRowsV.put {w w2 : World} {B G n cap : Nat} {v2 : Value} {vs : List Value} {rows : List (List Int)} {xs : List Int} (h : OwnRowsV w B (.slice (some ⟨G, 0, none⟩) n cap) vs rows) (hB : B ≤ w.heap.size) (hb : Below w.heap.size w w2)
    (hv : OwnInts w2 w.heap.size v2 xs) (k : Nat) (hk : k < rows.length) : OwnRowsV (w2.setCell ⟨G, k, none⟩ v2) B (.slice (some ⟨G, 0, none⟩) n cap) (vs.set k v2) (rows.set k xs) := by
  obtain ⟨hV, hl, hrows, hdis⟩ := h
  have hV2 := hV.call hb
  have hn : n = vs.length := by
    rcases hV.2 with ⟨h1, _⟩ | ⟨g, cap', cur, h1, _⟩
    · simp at h1
    · simp at h1; exact h1.2.1
  subst hn
  have st := World.ownsRow.stored (show w2.ownsRow B 35 1 (.slice (some ⟨G, 0, none⟩) vs.length cap) vs.length vs from hV2) k v2
  refine ⟨by have := st.1; unfold OwnVals; rw [List.length_set]; exact this, by simp [hl], ?_, ?_⟩
  · intro i hi
    rw [List.length_set] at hi
    by_cases hik : k = i
    · subst hik
      rw [getD_set_eq _ _ _ _ (by omega), getD_set_eq _ _ _ _ hk]
      exact (ownInts_mono hv hB).kept st.2 (own_ne hv hV2)
    · rw [getD_set_ne _ _ _ _ _ hik, getD_set_ne _ _ _ _ _ hik]
      have hi2 := (hrows i hi).call hb
      exact hi2.kept st.2 (own_ne hi2 hV2)
  · intro i j hi hj hij
    rw [List.length_set] at hi hj
    have old : ∀ i, i < rows.length → ∀ k, (vs.getD i undef).ownBlock = some k → k < w.heap.size := fun i h k hk => ((hrows i h).lt k hk).2
    have new : ∀ k, v2.ownBlock = some k → w.heap.size ≤ k := fun k hk => (hv.lt k hk).1
    by_cases h1 : k = i
    · subst h1
      rw [getD_set_eq _ _ _ _ (by omega), getD_set_ne _ _ _ _ _ hij]
      cases he : v2.ownBlock with
      | none => exact Or.inl rfl
      | some q =>
        refine Or.inr fun e => ?_
        have := new q he
        have := old j hj q e.symm
        omega
    · by_cases h2 : k = j
      · subst h2
        rw [getD_set_eq _ _ _ _ (by omega), getD_set_ne _ _ _ _ _ h1]
        cases he : (vs.getD i undef).ownBlock with
        | none => exact Or.inl rfl
        | some q =>
          refine Or.inr fun e => ?_
          have := new q e.symm
          have := old i hi q he
          omega
      · rw [getD_set_ne _ _ _ _ _ h1, getD_set_ne _ _ _ _ _ h2]
        exact hdis i j hi hj hij

/-- the block of the rows -/
theorem OwnRowsV.base {w : World} {B G n cap : Nat} {vs : List Value} {rows : List (List Int)} (h : OwnRowsV w B (.slice (some ⟨G, 0, none⟩) n cap) vs rows) : B ≤ G ∧ G < w.heap.size := h.1.lt G rfl
theorem OwnRowsV.free {w : World} {B G n cap : Nat} {vs : List Value} {rows : List (List Int)} (h : OwnRowsV w B (.slice (some ⟨G, 0, none⟩) n cap) vs rows) (j : Nat) : w.frozen? ⟨G, j, none⟩ = false := by
  rcases h.1.2 with ⟨h1, _⟩ | ⟨g, cap', cur, h1, hb, hg, _⟩
  · simp at h1
  · simp only [Value.slice.injEq, Option.some.injEq, Addr.mk.injEq, and_true] at h1
    obtain ⟨rfl, h1⟩ := h1
    simp [World.frozen?, hg]
theorem OwnRowsV.isCell {w : World} {B G n cap : Nat} {vs : List Value} {rows : List (List Int)} (h : OwnRowsV w B (.slice (some ⟨G, 0, none⟩) n cap) vs rows) {k : Nat} (hk : k < rows.length) : w.cell? ⟨G, k, none⟩ = some (vs.getD k undef) := by
  obtain ⟨a, c, he, _, _, hc⟩ := h.1.cell
  obtain ⟨g, hg, hcell⟩ := hc k (by rw [h.2.1]; exact hk)
  simp only [Value.slice.injEq] at he
  obtain ⟨ha, _, _⟩ := he
  rw [hg] at ha
  simp only [Option.some.injEq, Addr.mk.injEq, and_true] at ha
  obtain rfl := ha
  exact hcell

theorem ints_made {w : World} {B n : Nat} {v : Value} (h : w.ownsRow B 3 1 v n (madeCells (Value.int .i64 0).cells (n * 1)).toList) : OwnInts w B v (List.replicate n 0) := by
  have e : (madeCells (Value.int .i64 0).cells (n * 1)).toList = (List.replicate n (0 : Int)).map (Value.int .i64) := by
    rw [show (Value.int .i64 0).cells = #[Value.int .i64 0] from rfl, Nat.mul_one, toList_madeCells_one, List.map_replicate]
  unfold OwnInts
  rw [List.length_replicate, ← e]
  exact h
theorem vals_made {w : World} {B n : Nat} {v : Value} (h : w.ownsRow B 35 1 v n (madeCells (Value.slice none 0 0).cells (n * 1)).toList) : OwnRowsV w B v (List.replicate n (.slice none 0 0)) (List.replicate n []) := by
  have e : (madeCells (Value.slice none 0 0).cells (n * 1)).toList = List.replicate n (Value.slice none 0 0) := by
    rw [show (Value.slice none 0 0).cells = #[Value.slice none 0 0] from rfl, Nat.mul_one, toList_madeCells_one]
  refine ⟨?_, by simp, ?_, ?_⟩
  · unfold OwnVals
    rw [List.length_replicate, ← e]
    exact h
  · intro i hi
    rw [List.length_replicate] at hi
    have e1 : (List.replicate n (Value.slice none 0 0)).getD i undef = .slice none 0 0 := by simp [List.getD, hi]
    have e2 : (List.replicate n ([] : List Int)).getD i [] = [] := by simp [List.getD, hi]
    rw [e1, e2]
    exact World.ownsRow_nil _ _ _ _
  · intro i j hi hj hij
    rw [List.length_replicate] at hi
    have e1 : (List.replicate n (Value.slice none 0 0)).getD i undef = .slice none 0 0 := by simp [List.getD, hi]
    rw [e1]
    exact Or.inl rfl

/-- one element of one row -/
theorem RowsAt.elem {w : World} {b off : Nat} {n : Nat} {rows : List (List Int)} (h : RowsAt w (Option.some ⟨b, off, none⟩) n rows) {i : Nat} (hi : i < n) {j : Nat} (hj : j < (rows.getD i []).length) :
    ∃ b2 off2 rc, w.cell? ⟨b, off + i, none⟩ = Option.some (.slice (Option.some ⟨b2, off2, none⟩) (rows.getD i []).length rc) ∧ w.cell? ⟨b2, off2 + j, none⟩ = Option.some (.int .i64 ((rows.getD i []).getD j 0)) := by
  obtain ⟨ra, rc, hc, h1, h2, h3, h4⟩ := h.row hi
  obtain ⟨b2, off2, hra, hcell⟩ := h4.2 j hj
  exact ⟨b2, off2, rc, by rw [hc, hra], hcell⟩

theorem OwnInts.nil (w : World) (B : Nat) : OwnInts w B (.slice none 0 0) [] := World.ownsRow_nil _ _ _ _
theorem OwnInts.snoc {w : World} {B : Nat} {v : Value} {xs : List Int} {x : Int} {n : Nat} (hn : n = xs.length) (h : w.ownsRow B 3 1 v (n + 1) (xs.map (Value.int .i64) ++ [Value.int .i64 x])) : OwnInts w B v (xs ++ [x]) := by
  unfold OwnInts
  rw [List.map_append, List.length_append, ← hn]
  exact h
/-- one append to a row that is being made -/
theorem own_grow {w wi w2 : World} {v : Value} {xs : List Int} {o : Obj} (hb : Below w.heap.size w wi) (h : OwnInts wi w.heap.size v xs) (hg : (wi.alloc o).grownBy w2 v.ownBlock) : Below w.heap.size w w2 :=
  hb.trans (((Below.refl w.heap.size wi).alloc hb.size o).trans (grown_below hg (le_alloc hb.size o) (fun k hk => (h.lt k hk).1)))

/-- an error by its number -/
def errV (e : Int) : Value := if e = 0 then .nilIface else .iface 43 (.int .i64 e)
theorem errV_zero : errV 0 = .nilIface := rfl
theorem errV_pos {e : Int} (h : e ≠ 0) : errV e = .iface 43 (.int .i64 e) := by unfold errV; rw [if_neg h]
/-- the sizes that a row's reading gives -/
def Small (n : Nat) (rows : List (List Int)) : Prop := n ≤ 9223372036854775807 ∧ ∀ k, k < n → (rows.getD k []).length ≤ 9223372036854775807

/-- one element of owned rows: where it lies; what a store makes of them -/
theorem OwnRowsV.elem {w : World} {B : Nat} {v : Value} {vs : List Value} {rows : List (List Int)} (h : OwnRowsV w B v vs rows) {i : Nat} (hi : i < rows.length) (hp : 0 < (rows.getD i []).length) :
    ∃ g rc, vs.getD i undef = .slice (Option.some ⟨g, 0, none⟩) (rows.getD i []).length rc ∧ B ≤ g ∧ g < w.heap.size ∧ (∀ j, w.frozen? ⟨g, j, none⟩ = false) ∧
      (∀ j, j < (rows.getD i []).length → w.cell? ⟨g, j, none⟩ = Option.some (.int .i64 ((rows.getD i []).getD j 0))) ∧
      ∀ j x, OwnRowsV (w.setCell ⟨g, j, none⟩ (.int .i64 x)) B v vs (rows.set i ((rows.getD i []).set j x)) := by
  obtain ⟨hV, hl, hrows, hdis⟩ := h
  have hr := hrows i hi
  have hr' := hr
  rcases hr'.2 with ⟨e, hn⟩ | ⟨g, cap, cur, e, hg, hb, h1, h2, h3, h4⟩
  · omega
  · have hlt := (World.ownsRow.lt hr g (by rw [e]; rfl)).2
    have ho : w.ownsRow B 3 1 (.slice (Option.some ⟨g, 0, none⟩) (rows.getD i []).length cap) (rows.getD i []).length ((rows.getD i []).map (Value.int .i64)) := by rw [← e]; exact hr
    refine ⟨g, cap, e, hg, hlt, fun j => ho.frozenAt j, fun j hj => ?_, fun j x => ?_⟩
    · rw [ho.cellAt j (by omega)]
      generalize rows.getD i [] = row at hj ⊢
      simp [hj, List.getD]
    · have st := ho.stored j (.int .i64 x)
      refine ⟨?_, by rw [List.length_set]; exact hl, ?_, ?_⟩
      · refine hV.kept st.2 ?_
        have := own_ne hr hV
        rw [e] at this
        rcases this with h | h
        · simp [Value.ownBlock] at h
        · exact Or.inr (fun he => h he.symm)
      · intro k hk
        rw [List.length_set] at hk
        by_cases hik : i = k
        · subst hik
          rw [getD_set_eq _ _ _ _ hi, e]
          unfold OwnInts
          rw [List.length_set, List.map_set]
          exact st.1
        · rw [getD_set_ne _ _ _ _ _ hik]
          refine (hrows k hk).kept st.2 ?_
          have := hdis k i hk hi (fun h => hik h.symm)
          rw [e] at this
          exact this
      · intro p q hp hq hpq
        rw [List.length_set] at hp hq
        exact hdis p q hp hq hpq
/-- two rows' blocks are unlike -/
theorem OwnRowsV.ne {w : World} {B : Nat} {v : Value} {vs : List Value} {rows : List (List Int)} (h : OwnRowsV w B v vs rows) {i j g g' n n' c c' : Nat} (hi : i < rows.length) (hj : j < rows.length) (hij : i ≠ j)
    (e : vs.getD i undef = .slice (Option.some ⟨g, 0, none⟩) n c) (e' : vs.getD j undef = .slice (Option.some ⟨g', 0, none⟩) n' c') : g ≠ g' := by
  have := h.2.2.2 i j hi hj hij
  rw [e, e'] at this
  rcases this with h | h
  · simp [Value.ownBlock] at h
  · rintro rfl
    exact h rfl
/-- a row's block is not the block of the rows -/
theorem OwnRowsV.ne0 {w : World} {B G n0 cap : Nat} {vs : List Value} {rows : List (List Int)} (h : OwnRowsV w B (.slice (Option.some ⟨G, 0, none⟩) n0 cap) vs rows) {i g n c : Nat} (hi : i < rows.length)
    (e : vs.getD i undef = .slice (Option.some ⟨g, 0, none⟩) n c) : g ≠ G := by
  have := own_ne (h.2.2.1 i hi) h.1
  rw [e] at this
  rcases this with h | h
  · simp [Value.ownBlock] at h
  · rintro rfl
    exact h rfl

theorem OwnRowsV.call {w w' : World} {B : Nat} {v : Value} {vs : List Value} {rows : List (List Int)} (h : OwnRowsV w B v vs rows) (hb : Below w.heap.size w w') : OwnRowsV w' B v vs rows := by
  obtain ⟨h1, h2, h3, h4⟩ := h
  exact ⟨h1.call hb, h2, fun i hi => (h3 i hi).call hb, h4⟩

theorem OwnRowsV.mono {w : World} {B B' : Nat} {v : Value} {vs : List Value} {rows : List (List Int)} (h : OwnRowsV w B' v vs rows) (hB : B ≤ B') : OwnRowsV w B v vs rows := by
  obtain ⟨h1, h2, h3, h4⟩ := h
  refine ⟨?_, h2, fun i hi => ownInts_mono (h3 i hi) hB, h4⟩
  refine ⟨h1.1, ?_⟩
  rcases h1.2 with h | ⟨g, cap, cur, e1, e2, e3⟩
  · exact Or.inl h
  · exact Or.inr ⟨g, cap, cur, e1, by omega, e3⟩
theorem OwnRows.mono {w : World} {B B' : Nat} {v : Value} {rows : List (List Int)} (h : OwnRows w B' v rows) (hB : B ≤ B') : OwnRows w B v rows := by
  obtain ⟨vs, hv⟩ := h.vals
  exact (hv.mono hB).rows

theorem IntsAt_two (w : World) (B : Nat) (x y : Int) (h0 : w.cell? ⟨B, 0, none⟩ = some (.int .i64 x)) (h1 : w.cell? ⟨B, 1, none⟩ = some (.int .i64 y)) : IntsAt w (some ⟨B, 0, none⟩) 2 [x, y] := by
  refine ⟨rfl, fun i hi => ⟨B, 0, rfl, ?_⟩⟩
  match i, hi with
  | 0, _ => simpa using h0
  | 1, _ => simpa using h1
end Go.Proofs.YthmkokbfeodeoaaDoor
