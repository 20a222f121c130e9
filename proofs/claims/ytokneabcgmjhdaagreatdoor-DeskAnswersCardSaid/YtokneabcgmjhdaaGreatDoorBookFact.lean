/- The closed fact of the book's laws. -/
import Derived.Test.YtokneabcgmjhdaaGreatDoorBookDetM
import Derived.Test.YtokneabcgmjhdaaGreatDoorBookText
namespace Go.Proofs.YtokneabcgmjhdaaGreatDoor
open Go.RowKit
set_option linter.unusedVariables false
set_option linter.unusedSimpArgs false

def line017 : ByteArray := lineOf wordS [0, 1, 7]
def head017 : ByteArray := ⟨#[115, 32, 48, 32, 49, 32, 55, 32]⟩
theorem dig_small (u : Nat) (h : u < 10) : dig (u : Int) = ⟨#[UInt8.ofNat (48 + u)]⟩ := by
  unfold dig
  rw [Lib.itoa_nonneg, Lib.decDigits, dif_pos h]
theorem rec017 : recOf wordS [0, 1, 7] = ⟨#[115, 32, 48, 32, 49, 32, 55]⟩ := by
  have h0 := dig_small 0 (by omega)
  have h1 := dig_small 1 (by omega)
  have h7 := dig_small 7 (by omega)
  show ((wordS ++ (blank ++ dig ((0 : Nat) : Int))) ++ (blank ++ dig ((1 : Nat) : Int))) ++ (blank ++ dig ((7 : Nat) : Int)) = _
  rw [h0, h1, h7]
  decide
theorem line017_eq : line017 = head017 ++ dig (sumOf (recOf wordS [0, 1, 7])) := by
  unfold line017 lineOf
  rw [rec017]
  rfl
theorem line017_size : line017.size ≤ 1000 := line_size wordS rfl 0 1 7 (by decide)
theorem text017 : textOf [line017] = head017 ++ (dig (sumOf (recOf wordS [0, 1, 7])) ++ ⟨#[10]⟩) := by
  unfold textOf
  show (⟨([] ++ ((line017).data.toList ++ [10])).toArray⟩ : ByteArray) = _
  rw [line017_eq]
  apply ByteArray.ext
  simp
theorem text_facts : ∃ T : ByteArray, textOf [line017] = T ∧ 8 < T.size ∧ T.extract 0 8 = head017 := by
  refine ⟨_, text017, ?_, ?_⟩
  · rw [ByteArray.size_append, ByteArray.size_append]
    show 8 < 8 + (_ + 1)
    omega
  · exact ByteArray.extract_append_eq_left rfl
theorem head_list : head017.toList = [115, 32, 48, 32, 49, 32, 55, 32] := by
  decide +kernel
theorem zeros_sq : Sq 4 zeros4 := ⟨rfl, fun k hk => by
  have : k = 0 ∨ k = 1 ∨ k = 2 ∨ k = 3 := by omega
  rcases this with rfl | rfl | rfl | rfl <;> rfl⟩
end Go.Proofs.YtokneabcgmjhdaaGreatDoor
