/- What is put down: any steps. -/
import Derived.Test.YtokneabcgmjhdaaGreatDoorBookAdd
namespace Go.Proofs.YtokneabcgmjhdaaGreatDoor
open Go.RowKit
set_option linter.unusedVariables false
set_option linter.unusedSimpArgs false

/-- a book's rows and lines -/
abbrev BS := List (List Int) × List ByteArray
def zeros4 : List (List Int) := List.replicate 4 (List.replicate 4 0)
def bSet (s : BS) (i j n : Int) : BS := if setErr i j n s.2.length = 0 then (putE s.1 i.toNat j.toNat n, s.2 ++ [lineOf wordS [i, j, n]]) else s
def bAdd (s : BS) (i j n : Int) : BS := if addErr i j n s.2.length = 0 then (addTo s.1 i.toNat j.toNat n 4, s.2 ++ [lineOf wordA [i, j, n]]) else s
/-- one step -/
def bStep (s : BS) (l : List Int) : BS := if l.length = 4 then (if l.getD 0 0 = 0 then bSet s (l.getD 1 0) (l.getD 2 0) (l.getD 3 0) else bAdd s (l.getD 1 0) (l.getD 2 0) (l.getD 3 0)) else s
def bRun (steps : List (List Int)) : Nat → BS
  | 0 => (zeros4, [])
  | k + 1 => bStep (bRun steps k) (steps.getD k [])

/-- a book, in any case -/
theorem Set_any (w : World) (B Bk G : Nat) (vs : List Value) (vl : Value) (s : BS) (hB : BookAt w B Bk G vs vl s.1 s.2) (hBw : B ≤ w.heap.size) (hT : Tab B w) (i j n : Int) :
    Calls Tryz.prog 62 #[.pointer (some ⟨Bk, 0, none⟩), .int .i64 i, .int .i64 j, .int .i64 n] w fun e w' => e = .returned (errV (setErr i j n s.2.length)) ∧ BookDone w w' B Bk G vs vl (bSet s i j n).1 (bSet s i j n).2 := by
  by_cases he : setErr i j n s.2.length = 0
  · rw [show bSet s i j n = (putE s.1 i.toNat j.toNat n, s.2 ++ [lineOf wordS [i, j, n]]) from if_pos he, he]
    exact Set_good w B Bk G vs vl s.1 s.2 hB hBw hT i j n he
  · rw [show bSet s i j n = s from if_neg he]
    refine (Set_bad w B Bk G vs vl s.1 s.2 hB i j n he).mono fun e w' h => ⟨h.1, ⟨vl, hB.call h.2, fun b hb => Or.inl hb⟩, BKept.of _ _ _ h.2⟩
theorem Add_any (w : World) (B Bk G : Nat) (vs : List Value) (vl : Value) (s : BS) (hB : BookAt w B Bk G vs vl s.1 s.2) (hBw : B ≤ w.heap.size) (hT : Tab B w) (i j n : Int) :
    Calls Tryz.prog 63 #[.pointer (some ⟨Bk, 0, none⟩), .int .i64 i, .int .i64 j, .int .i64 n] w fun e w' => e = .returned (errV (addErr i j n s.2.length)) ∧ BookDone w w' B Bk G vs vl (bAdd s i j n).1 (bAdd s i j n).2 := by
  by_cases he : addErr i j n s.2.length = 0
  · rw [show bAdd s i j n = (addTo s.1 i.toNat j.toNat n 4, s.2 ++ [lineOf wordA [i, j, n]]) from if_pos he, he]
    exact Add_good w B Bk G vs vl s.1 s.2 hB hBw hT i j n he
  · rw [show bAdd s i j n = s from if_neg he]
    refine (Add_bad w B Bk G vs vl s.1 s.2 hB i j n he).mono fun e w' h => ⟨h.1, ⟨vl, hB.call h.2, fun b hb => Or.inl hb⟩, BKept.of _ _ _ h.2⟩
end Go.Proofs.YtokneabcgmjhdaaGreatDoor
