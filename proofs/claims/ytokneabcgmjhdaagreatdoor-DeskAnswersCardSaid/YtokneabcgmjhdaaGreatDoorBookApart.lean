/- Two books side by side: what is done with one of them leaves the other alone. -/
import Derived.Test.YtokneabcgmjhdaaGreatDoorRefAny
import Derived.Test.YtokneabcgmjhdaaGreatDoorOpOpen
import Derived.Test.YtokneabcgmjhdaaGreatDoorReplay
import Derived.Test.YtokneabcgmjhdaaGreatDoorBookFact
namespace Go.Proofs.YtokneabcgmjhdaaGreatDoor
open Go.RowKit
set_option linter.unusedVariables false
set_option linter.unusedSimpArgs false

theorem BookAt.apart {w w' : World} {B Bk G B' Bk' G' : Nat} {vs vs' : List Value} {vl vl' : Value} {rows rows' : List (List Int)} {lines lines' : List ByteArray} (h : BookAt w B Bk G vs vl rows lines) (h' : BookAt w B' Bk' G' vs' vl' rows' lines') (k : BKept w w' Bk' vs' vl')
    (h1 : Bk ≠ Bk') (h2 : ∀ b, vl.ownBlock = some b → vl'.ownBlock ≠ some b) (h3 : ∀ i j b, i < 4 → j < 4 → (vs.getD i undef).ownBlock = some b → (vs'.getD j undef).ownBlock ≠ some b) : BookAt w' B Bk G vs vl rows lines := by
  have hv' : ∀ i, i < 4 → OwnInts w B' (vs'.getD i undef) (rows'.getD i []) := fun i hi => h'.own.2.2.1 i (by rw [h'.sq.1]; exact hi)
  have hbk' : ∀ (e : TypeId) (u : Value) (n : Nat) (xs : List Value) (A : Nat), e ≠ 54 → w.ownsRow A e 1 u n xs → u.ownBlock ≠ some Bk' := fun e u n xs A he hu => own_tag hu h'.box he
  refine ⟨h.base, ?_, ⟨?_, h.own.2.1, fun i hi => ?_, h.own.2.2.2⟩, ?_, h.sq, h.ent⟩
  · rw [k.block Bk h.lt h1 (own_tag h'.log h.box (by decide)) (fun i hi => own_tag (hv' i hi) h.box (by decide))]; exact h.box
  · refine own_same h.own.1 fun b hb => ?_
    refine k.block b (World.ownsRow.lt h.own.1 b hb).2 (fun e => hbk' _ _ _ _ _ (by decide) h.own.1 (e ▸ hb)) (fun e => ?_) (fun i hi e => ?_)
    · rcases own_ne2 h'.log h.own.1 (by decide) with hn | hn
      · rw [hn] at e; cases e
      · exact hn (e.trans hb.symm)
    · rcases own_ne2 (hv' i hi) h.own.1 (by decide) with hn | hn
      · rw [hn] at e; cases e
      · exact hn (e.trans hb.symm)
  · have hr := h.own.2.2.1 i hi
    refine own_same hr fun b hb => ?_
    refine k.block b (World.ownsRow.lt hr b hb).2 (fun e => hbk' _ _ _ _ _ (by decide) hr (e ▸ hb)) (fun e => ?_) (fun j hj e => ?_)
    · rcases own_ne2 h'.log hr (by decide) with hn | hn
      · rw [hn] at e; cases e
      · exact hn (e.trans hb.symm)
    · exact h3 i j b (by rw [h.sq.1] at hi; exact hi) hj hb e
  · refine own_same h.log fun b hb => ?_
    refine k.block b (World.ownsRow.lt h.log b hb).2 (fun e => hbk' _ _ _ _ _ (by decide) h.log (e ▸ hb)) (h2 b hb) (fun j hj e => ?_)
    rcases own_ne2 (hv' j hj) h.log (by decide) with hn | hn
    · rw [hn] at e; cases e
    · exact hn (e.trans hb.symm)
/-- all blocks of a book lie between its base and the heap's end -/
theorem BookAt.range {w : World} {B Bk G : Nat} {vs : List Value} {vl : Value} {rows : List (List Int)} {lines : List ByteArray} (h : BookAt w B Bk G vs vl rows lines) : (B ≤ Bk ∧ Bk < w.heap.size) ∧ (∀ b, vl.ownBlock = some b → B ≤ b ∧ b < w.heap.size) ∧ ∀ i b, i < 4 → (vs.getD i undef).ownBlock = some b → B ≤ b ∧ b < w.heap.size :=
  ⟨⟨h.base, h.lt⟩, fun b hb => World.ownsRow.lt h.log b hb, fun i b hi hb => World.ownsRow.lt (h.own.2.2.1 i (by rw [h.sq.1]; exact hi)) b hb⟩
/-- a good log, opened: the book again -/
theorem Open_good (s : BS) (hs : LogOk s) (w : World) (hG : Glob w.heap.size w) :
    Calls Tryz.prog 68 #[.string (textOf s.2)] w fun e w' => (∃ Bk G vs vl, e = .returned (.tuple #[.pointer (some ⟨Bk, 0, none⟩), .int .i64 (s.2.length : Nat), .nilIface]) ∧ BookAt w' w.heap.size Bk G vs vl s.1 s.2) ∧ Below w.heap.size w w' := by
  refine (Open_any (textOf s.2) w hG).mono ?_
  rintro e w' ⟨h, hb⟩
  rw [hs.open] at h
  rcases h with ⟨Bk, G, vs, vl, rfl, -, h2⟩ | ⟨-, h2⟩
  · exact ⟨⟨Bk, G, vs, vl, rfl, h2⟩, hb⟩
  · exact absurd rfl h2
end Go.Proofs.YtokneabcgmjhdaaGreatDoor
