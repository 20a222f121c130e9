/- Plain: what holds of every book: its rows, its lines. -/
import Derived.Test.YtokneabcgmjhdaaGreatDoorBookDetM
import Derived.Test.YtokneabcgmjhdaaGreatDoorBookText
namespace Go.Proofs.YtokneabcgmjhdaaGreatDoor
open Go.RowKit
set_option linter.unusedVariables false
set_option linter.unusedSimpArgs false

/-- a book as it may be -/
structure BSok (s : BS) : Prop where
  sq : Sq 4 s.1
  ent : ∀ i j, i < 4 → j < 4 → 0 ≤ fn s.1 i j ∧ fn s.1 i j < 9973
  len : s.2.length ≤ 60
  line : ∀ k, (s.2.getD k ⟨#[]⟩).size ≤ 1000
theorem setErr_zero {i j n : Int} {L : Nat} (he : setErr i j n L = 0) : placeErr i j n = 0 ∧ L < 60 := by
  unfold setErr at he
  by_cases h : placeErr i j n = 0
  · rw [if_neg (by omega)] at he
    refine ⟨h, ?_⟩
    by_cases h6 : 60 ≤ L
    · rw [if_pos h6] at he; cases he
    · omega
  · rw [if_pos h] at he; exact absurd he h
theorem addErr_zero {i j n : Int} {L : Nat} (he : addErr i j n L = 0) : placeErr i j n = 0 ∧ i ≠ j ∧ L < 60 := by
  unfold addErr at he
  by_cases h : placeErr i j n = 0
  · rw [if_neg (by omega)] at he
    refine ⟨h, ?_⟩
    by_cases hij : i = j
    · rw [if_pos hij] at he; cases he
    · rw [if_neg hij] at he
      refine ⟨hij, ?_⟩
      by_cases h6 : 60 ≤ L
      · rw [if_pos h6] at he; cases he
      · omega
  · rw [if_pos h] at he; exact absurd he h
theorem zeros_ok : BSok (zeros4, []) := by
  refine ⟨⟨rfl, fun k hk => ?_⟩, fun i j hi hj => ?_, by simp, fun k => by simp; decide⟩
  · have : k = 0 ∨ k = 1 ∨ k = 2 ∨ k = 3 := by omega
    rcases this with rfl | rfl | rfl | rfl <;> rfl
  · have h1 : i = 0 ∨ i = 1 ∨ i = 2 ∨ i = 3 := by omega
    have h2 : j = 0 ∨ j = 1 ∨ j = 2 ∨ j = 3 := by omega
    rcases h1 with rfl | rfl | rfl | rfl <;> rcases h2 with rfl | rfl | rfl | rfl <;> decide
theorem line_snoc {lines : List ByteArray} {l : ByteArray} (h : ∀ k, (lines.getD k ⟨#[]⟩).size ≤ 1000) (hl : l.size ≤ 1000) (k : Nat) : ((lines ++ [l]).getD k ⟨#[]⟩).size ≤ 1000 := by
  rw [List.getD_eq_getElem?_getD, List.getElem?_append]
  split
  · rw [← List.getD_eq_getElem?_getD]; exact h k
  · match hk : k - lines.length with
    | 0 => simpa using hl
    | m + 1 => simp; decide
theorem BSok.set {s : BS} (h : BSok s) (i j n : Int) : BSok (bSet s i j n) := by
  unfold bSet
  by_cases he : setErr i j n s.2.length = 0
  · rw [if_pos he]
    obtain ⟨hp, hL⟩ := setErr_zero he
    obtain ⟨⟨h1, h2⟩, ⟨h3, h4⟩, h5, h6⟩ := placeErr_ok hp
    refine ⟨put_sq h.sq _ _ _, fun a b ha hb => ?_, by simp; omega, line_snoc h.line (line_size wordS rfl i j n hp)⟩
    show 0 ≤ fn (putE s.1 i.toNat j.toNat n) a b ∧ fn (putE s.1 i.toNat j.toNat n) a b < 9973
    rw [fn_put h.sq (by omega) (by omega)]
    split
    · omega
    · exact h.ent a b ha hb
  · rw [if_neg he]; exact h
theorem BSok.add {s : BS} (h : BSok s) (i j n : Int) : BSok (bAdd s i j n) := by
  unfold bAdd
  by_cases he : addErr i j n s.2.length = 0
  · rw [if_pos he]
    obtain ⟨hp, hij, hL⟩ := addErr_zero he
    obtain ⟨⟨h1, h2⟩, ⟨h3, h4⟩, h5, h6⟩ := placeErr_ok hp
    refine ⟨addTo_sq h.sq _ _ _ _, fun a b ha hb => ?_, by simp; omega, line_snoc h.line (line_size wordA rfl i j n hp)⟩
    show 0 ≤ fn (addTo s.1 i.toNat j.toNat n 4) a b ∧ fn (addTo s.1 i.toNat j.toNat n 4) a b < 9973
    rw [fn_addTo h.sq (by omega) (by omega) n a b 4 (Nat.le_refl _)]
    split
    · omega
    · exact h.ent a b ha hb
  · rw [if_neg he]; exact h
theorem BSok.step {s : BS} (h : BSok s) (l : List Int) : BSok (bStep s l) := by
  unfold bStep
  by_cases h4 : l.length = 4
  · rw [if_pos h4]
    by_cases h0 : l.getD 0 0 = 0
    · rw [if_pos h0]; exact h.set _ _ _
    · rw [if_neg h0]; exact h.add _ _ _
  · rw [if_neg h4]; exact h
theorem bRun_ok (steps : List (List Int)) : ∀ k, BSok (bRun steps k)
  | 0 => zeros_ok
  | k + 1 => (bRun_ok steps k).step _
theorem textTo_app (lines : List ByteArray) (l : ByteArray) : ∀ k, k ≤ lines.length → textTo (lines ++ [l]) k = textTo lines k
  | 0, _ => rfl
  | k + 1, h => by
    rw [textTo, textTo, textTo_app lines l k (by omega)]
    simp only [List.getD_eq_getElem?_getD]
    rw [List.getElem?_append_left (by omega)]
theorem textOf_snoc (lines : List ByteArray) (l : ByteArray) : textOf (lines ++ [l]) = textOf lines ++ (l ++ ⟨#[10]⟩) := by
  unfold textOf
  rw [List.length_append, List.length_singleton, textTo, textTo_app lines l _ (Nat.le_refl _)]
  apply ByteArray.ext
  simp
theorem BSok.size {s : BS} (h : BSok s) : (textOf s.2).size ≤ 60060 := by
  have h1 := textTo_len s.2 h.line s.2.length
  have h2 := h.len
  show (textTo s.2 s.2.length).toArray.size ≤ _
  simp
  omega
end Go.Proofs.YtokneabcgmjhdaaGreatDoor
