/- Plain: what a line of a log does, and a whole log. -/
import Derived.Test.YtokneabcgmjhdaaGreatDoorNumMath
import Derived.Test.YtokneabcgmjhdaaGreatDoorBookOk
namespace Go.Proofs.YtokneabcgmjhdaaGreatDoor
open Go.RowKit
set_option linter.unusedVariables false
set_option linter.unusedSimpArgs false

/-- a list's bytes -/
abbrev ba (l : List UInt8) : ByteArray := ⟨l.toArray⟩
theorem ba_data (s : ByteArray) : ba s.data.toList = s := by
  cases s; simp [ba]
theorem ba_toList (l : List UInt8) : (ba l).data.toList = l := by simp [ba]
theorem ba_size (l : List UInt8) : (ba l).size = l.length := by show l.toArray.size = _; simp
theorem ba_app (a b : List UInt8) : ba a ++ ba b = ba (a ++ b) := by
  apply ByteArray.ext
  simp [ba]
theorem ba_inj {a b : List UInt8} (h : ba a = ba b) : a = b := by
  have := congrArg (fun s : ByteArray => s.data.toList) h
  simpa [ba] using this
theorem size_list (s : ByteArray) : s.data.toList.length = s.size := Array.length_toList

/-- cut at the last blank -/
def lastCut : List UInt8 → Option (List UInt8 × List UInt8)
  | [] => none
  | b :: r => match lastCut r with
    | some (x, y) => some (b :: x, y)
    | none => if b = 32 then some ([], r) else none
theorem lastCut_none : ∀ {l : List UInt8}, lastCut l = none ↔ (32 : UInt8) ∉ l
  | [] => by simp [lastCut]
  | b :: r => by
    rw [lastCut]
    cases h : lastCut r with
    | none =>
      have h1 := lastCut_none.1 h
      by_cases hb : b = 32
      · simp [hb]
      · simp [hb, h1]; exact fun e => hb e.symm
    | some p =>
      have : (32 : UInt8) ∈ r := by
        by_cases hm : (32 : UInt8) ∈ r
        · exact hm
        · rw [lastCut_none.2 hm] at h; cases h
      simp [this]
theorem lastCut_some : ∀ {l x y : List UInt8}, lastCut l = some (x, y) → l = x ++ 32 :: y ∧ (32 : UInt8) ∉ y
  | [], _, _, h => by simp [lastCut] at h
  | b :: r, x, y, h => by
    rw [lastCut] at h
    cases hr : lastCut r with
    | some p =>
      obtain ⟨p1, p2⟩ := p
      rw [hr] at h
      simp only [Option.some.injEq, Prod.mk.injEq] at h
      obtain ⟨rfl, rfl⟩ := h
      obtain ⟨h1, h2⟩ := lastCut_some hr
      exact ⟨by rw [h1]; rfl, h2⟩
    | none =>
      rw [hr] at h
      by_cases hb : b = 32
      · simp only [if_pos hb, Option.some.injEq, Prod.mk.injEq] at h
        obtain ⟨rfl, rfl⟩ := h
        exact ⟨by rw [hb]; rfl, lastCut_none.1 hr⟩
      · simp [hb] at h
theorem lastCut_app {y : List UInt8} (h : (32 : UInt8) ∉ y) : ∀ x : List UInt8, lastCut (x ++ 32 :: y) = some (x, y)
  | [] => by
    rw [List.nil_append, lastCut, lastCut_none.2 h]
    simp
  | b :: r => by rw [List.cons_append, lastCut, lastCut_app h r]

/-- what a record does -/
def recE (x : List UInt8) (s : BS) : Int × BS :=
  match cutL 32 x with
  | [w, a, b, c] =>
    if w = [115] ∨ w = [97] then
      match numL a, numL b, numL c with
      | some i, some j, some n => if w = [115] then (setErr i j n s.2.length, bSet s i j n) else (addErr i j n s.2.length, bAdd s i j n)
      | _, _, _ => (2, s)
    else (2, s)
  | _ => (2, s)
/-- what a line does -/
def lineE (l : List UInt8) (s : BS) : Int × BS :=
  match lastCut l with
  | none => (2, s)
  | some (x, y) => match numL y with
    | none => (2, s)
    | some n => if (n : Int) ≠ sumOf (ba x) then (6, s) else recE x s
/-- lines, one behind the other: what is wrong, in which, the book -/
def runL : List (List UInt8) → BS → Nat → Int × Nat × BS
  | [], s, k => (0, k, s)
  | l :: r, s, k => if (lineE l s).1 = 0 then runL r (lineE l s).2 (k + 1) else ((lineE l s).1, k + 1, s)
def linesOf (t : List UInt8) : List (List UInt8) := (cutL 10 t).dropLast
def openE (t : List UInt8) : Int × Nat × BS := if 2000 < t.length then (4, 0, (zeros4, [])) else runL (linesOf t) (zeros4, []) 0

theorem recE_ok {s : BS} (h : BSok s) (x : List UInt8) : BSok (recE x s).2 := by
  unfold recE
  split
  · split
    · split
      · split
        · exact h.set _ _ _
        · exact h.add _ _ _
      · exact h
    · exact h
  · exact h
theorem lineE_ok {s : BS} (h : BSok s) (l : List UInt8) : BSok (lineE l s).2 := by
  unfold lineE
  split
  · exact h
  · split
    · exact h
    · split
      · exact h
      · exact recE_ok h _
theorem runL_ok : ∀ (ls : List (List UInt8)) (s : BS) (k : Nat), BSok s → BSok (runL ls s k).2.2
  | [], s, k, h => h
  | l :: r, s, k, h => by
    rw [runL]
    split
    · exact runL_ok r _ _ (lineE_ok h l)
    · exact h
theorem openE_ok (t : List UInt8) : BSok (openE t).2.2 := by
  unfold openE
  split
  · exact zeros_ok
  · exact runL_ok _ _ _ zeros_ok
/-- where nothing is wrong a record's lines grow by one -/
theorem bSet_len {s : BS} {i j n : Int} (h : setErr i j n s.2.length = 0) : bSet s i j n = (putE s.1 i.toNat j.toNat n, s.2 ++ [lineOf wordS [i, j, n]]) := if_pos h
theorem bAdd_len {s : BS} {i j n : Int} (h : addErr i j n s.2.length = 0) : bAdd s i j n = (addTo s.1 i.toNat j.toNat n 4, s.2 ++ [lineOf wordA [i, j, n]]) := if_pos h
end Go.Proofs.YtokneabcgmjhdaaGreatDoor
