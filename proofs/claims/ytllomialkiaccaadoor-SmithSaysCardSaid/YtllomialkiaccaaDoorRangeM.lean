/- A loop over a function that yields memory of its own: the body is told what lies behind what is yielded. Out of the kit's law of the statement itself (wpIn_rangeFunc); rounds that always go on. -/
import Derived.RangeFuncNested
import Derived.RangeFuncBound
import Derived.RangeFuncCalls
import Derived.RangeFuncLeaves
namespace Go.Proofs.YtllomialkiaccaaDoor
open Go Go.RowKit

/-- what speaks of nothing from B on -/
def FreshFrom {β : Type} (B : Nat) (J : β → World → Prop) : Prop := ∀ s W W' row, J s W → W.grownBy W' row → (∀ r, row = some r → B ≤ r) → J s W'
theorem FreshFrom.alloc {β : Type} {B : Nat} {J : β → World → Prop} (h : FreshFrom B J) {s : β} {W : World} (o : Obj) (hs : J s W) : J s (W.alloc o) := h s W _ none hs (World.grownBy_alloc W o none) (fun r e => by cases e)
theorem FreshFrom.putObj {β : Type} {B : Nat} {J : β → World → Prop} (h : FreshFrom B J) {s : β} {W : World} {l : Nat} (o' : Obj) (hs : J s W) (hB : B ≤ l) : J s (W.putObj l o') := h s W _ (some l) hs (grownBy_putObj' W l o') (fun r e => by cases e; exact hB)
theorem FreshFrom.and {β : Type} {B : Nat} {I J : β → World → Prop} (h : FreshFrom B I) (k : FreshFrom B J) : FreshFrom B (fun s W => I s W ∧ J s W) := fun s W W' row hs hg hr => ⟨h s W W' row hs.1 hg hr, k s W W' row hs.2 hg hr⟩
theorem fresh_keeps {β : Type} {B B' : Nat} {w₀ : World} (hB : w₀.heap.size ≤ B') : FreshFrom B' (fun (_ : β) W => KeepsFrom B w₀ W) :=
  fun _ X Y row hs hg hr => ⟨Nat.le_trans hs.size hg.size, fun k o hk h0 ho => by
    have hX := hs.same k o hk h0 ho
    refine (hg.block k (Array.getElem?_eq_some_iff.1 hX).1 (fun e => ?_)).trans hX
    have h1 := hr k e.symm
    have h2 := (Array.getElem?_eq_some_iff.1 h0).1
    omega⟩
theorem fresh_below {β : Type} {n₀ B : Nat} {w₀ : World} (hn : n₀ ≤ w₀.heap.size) (hB : n₀ ≤ B) : FreshFrom B (fun (_ : β) W => Below n₀ w₀ W) :=
  fun _ _ _ _ hs hg hr => hs.grown hg (Nat.le_trans hn hs.size) (fun k e => Nat.le_trans hB (hr k e))
theorem fresh_cell {β : Type} {B b o : Nat} {v : Value} (hb : b < B) : FreshFrom B (fun (_ : β) W => W.cell? ⟨b, o, none⟩ = some v) :=
  fun _ X Y row hs hg hr => hg.cell hs (fun e => by have := hr b e.symm; omega)
theorem fresh_cell' {β : Type} {B b o : Nat} {v : β → Value} (hb : b < B) : FreshFrom B (fun (s : β) W => W.cell? ⟨b, o, none⟩ = some (v s)) :=
  fun _ X Y row hs hg hr => hg.cell hs (fun e => by have := hr b e.symm; omega)

/-- the contract of a function that yields x's; behind each x lies Mem x -/
def SeqMem {α : Type} (F : Fence) (n : Nat) (P : Program) (g : Nat) (lb : Array Value) (encs : α → Array Value) (Mem : α → World → Prop) (Kp : World → World → Prop) (S : List α → Prop) (w : World) : Prop :=
  ∀ (l : Nat) (J : List α → World → Prop) (W : World), Below w.heap.size w W → FreshFrom W.heap.size J →
    (∀ pre x W1, J pre W1 → Mem x W1 → YieldAt F (n - 1) P l (encs x) W1 fun e W' => e = .returned (.bool true) ∧ J (pre ++ [x]) W' ∧ Kp W1 W') → J [] W →
    CallsIn F n P g (#[.func (.yield l) #[] #[]] ++ lb) W fun e W' => (∃ v, e = .returned v) ∧ ∃ xs, S xs ∧ J xs W'

theorem SeqMem.inRound {α : Type} {F : Fence} {n : Nat} {P : Program} {g : Nat} {lb : Array Value} {encs : α → Array Value} {Mem : α → World → Prop} {Kp : World → World → Prop} {S : List α → Prop} {w : World} (l : Nat)
    (h : SeqMem F n P g lb encs Mem Kp S w) : SeqMem (F.inRound l) n P g lb encs Mem Kp S w := h
/-- how a round's body must end -/
def goesOn {α : Type} (B : Nat) (Kp : World → World → Prop) (I : List α → World → Prop) (xs : List α) (W : World) : Exit → Act → World → Prop
  | .normal, _, W' => KeepsFrom B W W' ∧ Kp W W' ∧ I xs W'
  | _, _, _ => False

variable {F : Fence} {n : Nat} {P : Program} {w : World}
theorem range_mem {α : Type} {g : Operand} {ps : Array Tmp} {assign body : Code} {Q : Exit → Act → World → Prop} {a : Act}
    (l' : Nat) (D' : Nat) (mark : List Deferred) (w₁ : World) (hent : ∀ fn, (Instr.enterLoop fn a.tmps ps assign body F.round).run P w = .ok (l', mark) (w₁.alloc (.loop { state := .ready, pending := none, fn, tmps := a.tmps, params := ps, assign, body, defers := D' })) ∧ l' = w₁.heap.size)
    (hw₁ : Below w.heap.size w w₁) (h1 : 1 ≤ n) {gf : Nat} {lb : Array Value} (hg : a.eval g = .func (.func gf) #[] lb) (hFg : F.fn gf) (eg : ∀ args w, (callFunc gf args).run P w = .ok (.enter gf args) w)
    {encs : α → Array Value} {Mem : α → World → Prop} {Kp : World → World → Prop} {S : List α → Prop} {w0 : World} (hseq : SeqMem F (n - 1) P gf lb encs Mem Kp S w0)
    (hKt : ∀ {A B C : World}, Kp A B → Kp B C → Kp A C) (hKb : ∀ (W : World) (l : Nat) (o o' : Obj), w.heap.size ≤ l → W.heap[l]? = some o → o.isCells = false → o.isWalk = false → Kp W (W.putObj l o')) (hb0 : Below w0.heap.size w0 w) (hps : ∀ x, (encs x).size = ps.size)
    (I : List α → World → Prop) (hI : FreshFrom w.heap.size I) (h0 : I [] w₁) (Ax : α → Act → World → Prop) (hAx : ∀ x a', OwnFrom w.heap.size (fun (_ : Unit) W => Ax x a' W))
    (hassign : ∀ (l : Nat) (pre : List α) (x : α) (W : World) (K : Act → World → Prop), I pre W → Mem x W → (∀ a' W', KeepsFrom w.heap.size W W' → Kp W W' → I pre W' → Ax x a' W' → K a' W') →
      assign.wpIn (F.inRound l) (n - 1 - 1) P (Exit.then K (fun _ _ _ => False)) { tmps := (ps.zip (encs x)).foldl (fun t (p, v) => t.setIfInBounds p v) a.tmps, defers := [] } W)
    (hbody : ∀ (l : Nat) (pre : List α) (x : α) (a' : Act) (W : World), w.heap.size ≤ l → (∃ r, W.heap[l]? = some (.loop r)) → I pre W → Ax x a' W → body.wpIn (F.inRound l) (n - 1 - 1) P (goesOn w.heap.size Kp I (pre ++ [x]) W) a' W)
    (hdone : ∀ (xs : List α) (W : World), S xs → I xs W → KeepsFrom w.heap.size w₁ W → Q .normal { a with defers := mark ++ a.defers } W) :
    (Code.rangeFunc g ps assign body).wpIn F n P Q a w := by
  refine wpIn_rangeFunc fun fn hfn => ?_
  obtain ⟨hent1, rfl⟩ := hent fn
  have lo : ∃ lo : LoopState → Option Code → Loop, lo = fun st pe => { state := st, pending := pe, fn, tmps := a.tmps, params := ps, assign, body, defers := D' } := ⟨_, rfl⟩
  obtain ⟨lo, hrec⟩ := lo
  obtain ⟨W1, hW1⟩ : ∃ W1, w₁.alloc (.loop (lo .ready none)) = W1 := ⟨_, rfl⟩
  have hL : W1.heap[w₁.heap.size]? = some (.loop (lo .ready none)) := by rw [← hW1]; exact World.alloc_heap_new w₁ _
  have hle := hw₁.size
  have hI1 : I [] W1 := by rw [← hW1]; exact hI.alloc _ h0
  have hk1 : KeepsFrom w.heap.size w₁ W1 := by rw [← hW1]; exact (KeepsOthers.alloc _ _).from _
  have hb1 : Below w0.heap.size w0 W1 := by
    rw [← hW1]; exact (hb0.trans (hw₁.mono hb0.size)).alloc (Nat.le_trans hb0.size hle) _
  refine ⟨w₁.heap.size, mark, W1, { target := .fn (.func gf) lb, args := #[.func (.yield w₁.heap.size) #[] #[]] }, W1, gf, #[.func (.yield w₁.heap.size) #[] #[]] ++ lb, W1, ?_, ?_, ?_, ?_, fun _ => h1, ?_⟩
  · rw [hent1, ← hW1, hrec]
  · simp only [resolve, hg]
    simp [go_sem]
  · intro f' hf'; simp [Target.leads] at hf'; subst hf'; exact hFg
  · simp [invoke, go_sem, eg]
  · have hsz : w₁.heap.size < W1.heap.size := (Array.getElem?_eq_some_iff.1 hL).1
    have hstay : FreshFrom w₁.heap.size (fun (_ : Unit) W => KeepsFrom w.heap.size w₁ W) := fresh_keeps (Nat.le_refl _)
    refine (hseq w₁.heap.size (fun pre W => I pre W ∧ W.heap[w₁.heap.size]? = some (.loop (lo .ready none)) ∧ KeepsFrom w.heap.size w₁ W) W1 hb1 ?abide ?yield ⟨hI1, hL, hk1⟩).mono ?last
    case abide =>
      rintro s A B row ⟨h1, h2, h3⟩ hg hr
      exact ⟨hI s A B row h1 hg (fun r e => by have := hr r e; omega), (hg.block _ (Array.getElem?_eq_some_iff.1 h2).1 (fun e => by have := hr _ e.symm; omega)).trans h2, hstay () A B row h3 hg (fun r e => by have := hr r e; omega)⟩
    case yield =>
      rintro pre x W ⟨hi, hl, hk⟩ hmem
      have hy := run_yield (P := P) (args := encs x) hl (by rw [hrec]; exact hps x)
      rw [hrec] at hy
      refine ⟨fn, _, assign, body, hy, roundIn_of_wpIn hfn (hassign _ pre x W _ hi hmem fun a' V hkV hpV hiV hax => ?_)⟩
      have hlV : V.heap[w₁.heap.size]? = some (.loop (lo .ready none)) := hkV.same _ _ hle hl rfl
      have hltV : w₁.heap.size < V.heap.size := (Array.getElem?_eq_some_iff.1 hlV).1
      have hkV2 : KeepsFrom w.heap.size w₁ V := hk.trans hkV
      refine ⟨_, run_beginRound hlV (by rw [hrec]), ?_⟩
      obtain ⟨U, hU⟩ : ∃ U, V.putObj w₁.heap.size (.loop { lo .ready none with state := .busy }) = U := ⟨_, rfl⟩
      have hlU : U.heap[w₁.heap.size]? = some (.loop { lo .ready none with state := .busy }) := by rw [← hU]; exact World.putObj_heap_same hltV
      have hkU : KeepsFrom w.heap.size w₁ U := by rw [← hU]; exact hstay.putObj (s := ()) _ hkV2 (Nat.le_refl _)
      have hpU : Kp V U := by rw [← hU]; exact hKb _ _ _ _ hle hlV rfl rfl
      have hiU : I pre U := by rw [← hU]; exact hI.putObj _ hiV hle
      have haU : Ax x a' U := by rw [← hU]; exact (hAx x a').putObj (s := ()) _ hax hle hlV rfl
      rw [hU]
      refine wpIn_mono (hbody _ pre x a' U hle ⟨_, hlU⟩ hiU haU) ?_
      rintro e a3 W3 hp
      cases e with
      | normal =>
        obtain ⟨hk3, hp3, hi3⟩ := hp
        have hl3 := hk3.same _ _ hle hlU rfl
        have hr := run_endRound (P := P) none hl3
        have hkW3 : KeepsFrom w.heap.size w₁ W3 := hkU.trans hk3
        have hr2 : (Instr.endRound w₁.heap.size none).run P W3 = .ok (.bool true) (W3.putObj w₁.heap.size (.loop (lo .ready none))) := by rw [hrec] at hr ⊢; exact hr
        exact ⟨_, _, hr2, ⟨rfl, ⟨hI.putObj _ hi3 hle, World.putObj_heap_same (Array.getElem?_eq_some_iff.1 hl3).1, hstay.putObj (s := ()) _ hkW3 (Nat.le_refl _)⟩, hKt hpV (hKt hpU (hKt hp3 (hKb _ _ _ _ hle hl3 rfl rfl)))⟩⟩
      | _ => exact hp.elim
    case last =>
      rintro e W2 ⟨⟨v, rfl⟩, xs, hS, hi, hl, hk⟩
      have hend := run_endLoop (P := P) hl (by rw [hrec]; simp)
      rw [show (lo .ready none).pending = none by rw [hrec]] at hend
      refine ⟨none, _, hend, ?_⟩
      exact hdone xs _ hS (hI.putObj _ hi hle) (hstay.putObj (s := ()) _ hk (Nat.le_refl _))
end Go.Proofs.YtllomialkiaccaaDoor
