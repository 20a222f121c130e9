/- Plain: rows added to each other change no determinant; the lines' sizes. -/
import Derived.Test.YtokneabcgmjhdaaGreatDoorBookPut
namespace Go.Proofs.YtokneabcgmjhdaaGreatDoor
open Go.RowKit
set_option linter.unusedVariables false
set_option linter.unusedSimpArgs false

theorem det_addTo {rows : List (List Int)} (h : Sq 4 rows) {p q : Nat} (hp : p < 4) (hq : q < 4) (hpq : p ≠ q) (n : Int) : G_det (addTo rows p q n 4) = G_det rows := by
  have h1 : (9973 : Int) ∣ G (-1) 4 (fn (addTo rows p q n 4)) - G (-1) 4 (setRow (fn rows) p (fun b => fn rows p b + n * fn rows q b)) := by
    refine G_mod (-1) 9973 4 fun a b ha hb => ?_
    rw [fn_addTo h hp hq n a b 4 (Nat.le_refl _)]
    unfold setRow
    by_cases hap : a = p
    · rw [if_pos ⟨hap, hb⟩, if_pos hap]
      show (9973 : Int) ∣ (fn rows p b + n * fn rows q b) % 9973 - (fn rows p b + n * fn rows q b)
      omega
    · rw [if_neg (fun h => hap h.1), if_neg hap]
      omega
  have h2 : G (-1) 4 (setRow (fn rows) p (fun b => fn rows p b + n * fn rows q b)) = G (-1) 4 (fn rows) := det_add 4 p q (fn rows) n hp hq hpq
  rw [h2] at h1
  unfold G_det
  omega
/-- a line is short -/
theorem line_size (word : ByteArray) (hw : word.size = 1) (i j n : Int) (h : placeErr i j n = 0) : (lineOf word [i, j, n]).size ≤ 1000 := by
  have h3 := list3 i j n (placeErr_ok h)
  have h1 : (recOf word [i, j, n]).size ≤ word.size + 22 * 3 := recTo_size word [i, j, n] h3 3
  have h2 := sumOf_in (r := recOf word [i, j, n]) (by omega)
  have h4 := dig_size _ h2.1 h2.2
  have h5 : blank.size = 1 := rfl
  unfold lineOf
  rw [ByteArray.size_append, ByteArray.size_append]
  omega
end Go.Proofs.YtokneabcgmjhdaaGreatDoor
