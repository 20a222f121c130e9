/- Contracts of the reference's Set and Add, in any case. -/
import Derived.Test.YtokneabcgmjhdaaGreatDoorRefAdd
import Derived.Test.YtokneabcgmjhdaaGreatDoorBookOk
namespace Go.Proofs.YtokneabcgmjhdaaGreatDoor
open Go.RowKit
set_option linter.unusedVariables false
set_option linter.unusedSimpArgs false

/-- v is the reference's book s -/
def RefIs (w : World) (B : Nat) (v : Value) (s : BS) : Prop := ∃ a cap, v = refV a cap (textOf s.2) s.2.length ∧ 4 ≤ cap ∧ OwnRows w B (.slice a 4 cap) s.1
theorem RefIs.call {w w' : World} {B : Nat} {v : Value} {s : BS} (h : RefIs w B v s) (hb : Below w.heap.size w w') : RefIs w' B v s := by
  obtain ⟨a, cap, h1, h2, h3⟩ := h
  exact ⟨a, cap, h1, h2, h3.call hb⟩
theorem own_rows4 {w : World} {B : Nat} {a : Option Addr} {cap : Nat} {rows : List (List Int)} (h : OwnRows w B (.slice a 4 cap) rows) : RowsAt w a 4 rows := by
  obtain ⟨a', cap', e, h1, h2, h3⟩ := h.rowsAt
  simp only [Value.slice.injEq] at e
  obtain ⟨rfl, h4, -⟩ := e
  rw [← h4] at h3
  exact h3
theorem RefIs.other {w w' : World} {B : Nat} {v : Value} {s : BS} {X : Nat} {cs : Array Value} {f : Nat × Nat} (h : RefIs w B v s) (hX : w.heap[X]? = some (.cells cs 48 f)) (hg : w.grownBy w' (some X)) : RefIs w' B v s := by
  obtain ⟨a, cap, h1, h2, h3⟩ := h
  obtain ⟨vs, h4⟩ := h3.vals
  exact ⟨a, cap, h1, h2, (h4.keptBy hg (own_tag h4.1 hX (by decide)) (fun i hi => own_tag (h4.2.2.1 i hi) hX (by decide))).rows⟩
theorem BookAt.other {w w' : World} {B Bk G X : Nat} {vs : List Value} {vl : Value} {rows : List (List Int)} {lines : List ByteArray} {cs : Array Value} {f : Nat × Nat} (h : BookAt w B Bk G vs vl rows lines) (hX : w.heap[X]? = some (.cells cs 48 f)) (hg : w.grownBy w' (some X)) : BookAt w' B Bk G vs vl rows lines := by
  refine ⟨h.base, ?_, h.own.keptBy hg (own_tag h.own.1 hX (by decide)) (fun i hi => own_tag (h.own.2.2.1 i hi) hX (by decide)), World.ownsRow.kept h.log hg (Or.inr (own_tag h.log hX (by decide))), h.sq, h.ent⟩
  rw [hg.block Bk h.lt ?_]
  · exact h.box
  · intro e
    cases e
    have := h.box
    rw [hX] at this
    simp only [Option.some.injEq, Obj.cells.injEq] at this
    exact absurd this.2.1 (by decide)
theorem BKept.at_ {w w' : World} {B Bk G X : Nat} {vs : List Value} {vl : Value} {rows : List (List Int)} {lines : List ByteArray} {cs : Array Value} {f : Nat × Nat} (k : BKept w w' Bk vs vl) (h : BookAt w B Bk G vs vl rows lines) (hX : w.heap[X]? = some (.cells cs 48 f)) : w'.heap[X]? = some (.cells cs 48 f) := by
  rw [k.block X (Array.getElem?_eq_some_iff.1 hX).1 ?_ (own_tag h.log hX (by decide)) (fun i hi => own_tag (h.own.2.2.1 i (by rw [h.sq.1]; exact hi)) hX (by decide))]
  · exact hX
  · rintro rfl
    have := h.box
    rw [hX] at this
    simp only [Option.some.injEq, Obj.cells.injEq] at this
    exact absurd this.2.1 (by decide)
theorem own_same {w w' : World} {B : Nat} {e : TypeId} {v : Value} {n : Nat} {xs : List Value} (h : w.ownsRow B e 1 v n xs) (hb : ∀ b, v.ownBlock = some b → w'.heap[b]? = w.heap[b]?) : w'.ownsRow B e 1 v n xs := by
  refine ⟨h.1, ?_⟩
  rcases h.2 with h | ⟨g, cap, cur, rfl, hg, hb2, h3⟩
  · exact Or.inl h
  · exact Or.inr ⟨g, cap, cur, rfl, hg, by rw [hb g rfl]; exact hb2, h3⟩
/-- the book's work leaves the reference's book alone -/
theorem RefIs.kept {w w' : World} {B B' Bk G : Nat} {vs : List Value} {vl v : Value} {rows : List (List Int)} {lines : List ByteArray} {s : BS} (h : RefIs w B v s) (k : BKept w w' Bk vs vl) (hB : BookAt w B' Bk G vs vl rows lines) (hBk : Bk < B) (hvs : ∀ i b, (vs.getD i undef).ownBlock = some b → b < B) : RefIs w' B v s := by
  obtain ⟨a, cap, h1, h2, h3⟩ := h
  obtain ⟨vs', h4⟩ := h3.vals
  have key : ∀ (e : TypeId) (u : Value) (n : Nat) (xs : List Value), e ≠ 9 → w.ownsRow B e 1 u n xs → w'.ownsRow B e 1 u n xs := fun e u n xs he hu => own_same hu fun b hb => by
    have hlt := World.ownsRow.lt hu b hb
    refine k.block b hlt.2 (by omega) (fun e2 => ?_) (fun i _ e2 => ?_)
    · have := own_ne2 hB.log hu (fun h => he h.symm)
      rcases this with h | h
      · rw [h] at e2; cases e2
      · exact h (e2.trans hb.symm)
    · have := hvs i b e2; omega
  exact ⟨a, cap, h1, h2, ⟨vs', key _ _ _ _ (by decide) h4.1, h4.2.1, fun i hi => key _ _ _ _ (by decide) (h4.2.2.1 i hi), h4.2.2.2⟩⟩
/-- the store of a whole book -/
abbrev put3 (w : World) (X : Nat) (x y z : Value) : World := ((w.setCell ⟨X, 0, none⟩ x).setCell ⟨X, 1, none⟩ y).setCell ⟨X, 2, none⟩ z
theorem put3_grown (w : World) (X : Nat) (x y z : Value) : w.grownBy (put3 w X x y z) (some X) := by
  have h1 := grown_setCell w X 0 x
  have h2 := grown_setCell (w.setCell ⟨X, 0, none⟩ x) X 1 y
  have h3 := grown_setCell ((w.setCell ⟨X, 0, none⟩ x).setCell ⟨X, 1, none⟩ y) X 2 z
  refine ⟨h3.os.trans (h2.os.trans h1.os), h3.tape.trans (h2.tape.trans h1.tape), h3.output.trans (h2.output.trans h1.output), Nat.le_trans h1.size (Nat.le_trans h2.size h3.size), fun k hk hn => ?_⟩
  rw [h3.block k (Nat.lt_of_lt_of_le hk (Nat.le_trans h1.size h2.size)) hn, h2.block k (Nat.lt_of_lt_of_le hk h1.size) hn, h1.block k hk hn]
theorem RNew_any (w : World) : Calls Tryz.prog 21 #[] w fun e w' => (∃ v, e = .returned v ∧ RefIs w' w.heap.size v (zeros4, [])) ∧ Below w.heap.size w w' := by
  refine (NewBook_any w).mono ?_
  rintro e w' ⟨a, cap, rfl, h1, h2, h3⟩
  exact ⟨⟨_, rfl, a, cap, rfl, h2, h1⟩, h3⟩
theorem gain_text (lines : List ByteArray) (word : ByteArray) (l : List Int) : gain (textOf lines) word l = textOf (lines ++ [lineOf word l]) := (textOf_snoc _ _).symm
theorem RSet_any (w : World) (B : Nat) (hB : B ≤ w.heap.size) (v : Value) (s : BS) (hs : BSok s) (h : RefIs w B v s) (i j n : Int) :
    Calls Tryz.prog 32 #[v, .int .i64 i, .int .i64 j, .int .i64 n] w fun e w' => (∃ v', e = .returned (.tuple #[v', .int .i64 (setErr i j n s.2.length)]) ∧ RefIs w' B v' (bSet s i j n)) ∧ Below w.heap.size w w' := by
  obtain ⟨a, cap, rfl, h1, h2⟩ := h
  have hz := hs.size
  by_cases he : setErr i j n s.2.length = 0
  · rw [show bSet s i j n = (putE s.1 i.toNat j.toNat n, s.2 ++ [lineOf wordS [i, j, n]]) from if_pos he]
    refine (RSet_good a cap _ _ i j n s.1 w (own_rows4 h2) hs.sq h1 (by omega) he).mono ?_
    rintro e w' ⟨⟨a', cap', rfl, h3, h4⟩, hb⟩
    rw [he, gain_text]
    exact ⟨⟨_, rfl, a', cap', by simp, h4, h3.mono hB⟩, hb⟩
  · rw [show bSet s i j n = s from if_neg he]
    refine (RSet_bad a cap _ _ i j n w he).mono ?_
    rintro e w' ⟨rfl, hb⟩
    exact ⟨⟨_, rfl, a, cap, rfl, h1, h2.call hb⟩, hb⟩
theorem RAdd_any (w : World) (B : Nat) (hB : B ≤ w.heap.size) (v : Value) (s : BS) (hs : BSok s) (h : RefIs w B v s) (i j n : Int) :
    Calls Tryz.prog 34 #[v, .int .i64 i, .int .i64 j, .int .i64 n] w fun e w' => (∃ v', e = .returned (.tuple #[v', .int .i64 (addErr i j n s.2.length)]) ∧ RefIs w' B v' (bAdd s i j n)) ∧ Below w.heap.size w w' := by
  obtain ⟨a, cap, rfl, h1, h2⟩ := h
  have hz := hs.size
  by_cases he : addErr i j n s.2.length = 0
  · rw [show bAdd s i j n = (addTo s.1 i.toNat j.toNat n 4, s.2 ++ [lineOf wordA [i, j, n]]) from if_pos he]
    refine (RAdd_good a cap _ _ i j n s.1 w (own_rows4 h2) hs.sq hs.ent h1 (by omega) he).mono ?_
    rintro e w' ⟨⟨a', cap', rfl, h3, h4⟩, hb⟩
    rw [he, gain_text]
    exact ⟨⟨_, rfl, a', cap', by simp, h4, h3.mono hB⟩, hb⟩
  · rw [show bAdd s i j n = s from if_neg he]
    refine (RAdd_bad a cap _ _ i j n w he).mono ?_
    rintro e w' ⟨rfl, hb⟩
    exact ⟨⟨_, rfl, a, cap, rfl, h1, h2.call hb⟩, hb⟩
end Go.Proofs.YtokneabcgmjhdaaGreatDoor
