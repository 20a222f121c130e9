/- The closed fact of the book's laws. -/
import Derived.Test.YtkpoemfdepjkaaaDoorBookDetM
import Derived.Test.YtkpoemfdepjkaaaDoorBookText
namespace Go.Proofs.YtkpoemfdepjkaaaDoor
open Go.RowKit
set_option linter.unusedVariables false
set_option linter.unusedSimpArgs false

def line017 : ByteArray := lineOf wordS [0, 1, 7]
def head017 : ByteArray := ⟨#[115, 32, 48, 32, 49, 32, 55, 32]⟩
theorem dig_small (u : Nat) (h : u < 10) : dig (u : Int) = ⟨#[UInt8.ofNat (48 + u)]⟩ := by
  unfold dig
  rw [Lib.itoa_nonneg, Lib.decDigits, dif_pos h]
theorem rec017 : recOf wordS [0, 1, 7] = ⟨#[115, 32, 48, 32, 49, 32, 55]⟩ := by
  have h0 := dig_small 0 (by omega)
  have h1 := dig_small 1 (by omega)
  have h7 := dig_small 7 (by omega)
  show ((wordS ++ (blank ++ dig ((0 : Nat) : Int))) ++ (blank ++ dig ((1 : Nat) : Int))) ++ (blank ++ dig ((7 : Nat) : Int)) = _
  rw [h0, h1, h7]
  decide
theorem line017_eq : line017 = head017 ++ dig (sumOf (recOf wordS [0, 1, 7])) := by
  unfold line017 lineOf
  rw [rec017]
  rfl
theorem line017_size : line017.size ≤ 1000 := line_size wordS rfl 0 1 7 (by decide)
theorem text017 : textOf [line017] = head017 ++ (dig (sumOf (recOf wordS [0, 1, 7])) ++ ⟨#[10]⟩) := by
  unfold textOf
  show (⟨([] ++ ((line017).data.toList ++ [10])).toArray⟩ : ByteArray) = _
  rw [line017_eq]
  apply ByteArray.ext
  simp
theorem text_facts : ∃ T : ByteArray, textOf [line017] = T ∧ 8 < T.size ∧ T.extract 0 8 = head017 := by
  refine ⟨_, text017, ?_, ?_⟩
  · rw [ByteArray.size_append, ByteArray.size_append]
    show 8 < 8 + (_ + 1)
    omega
  · exact ByteArray.extract_append_eq_left rfl
theorem head_list : head017.toList = [115, 32, 48, 32, 49, 32, 55, 32] := by
  decide +kernel
theorem zeros_sq : Sq 4 zeros4 := ⟨rfl, fun k hk => by
  have : k = 0 ∨ k = 1 ∨ k = 2 ∨ k = 3 := by omega
  rcases this with rfl | rfl | rfl | rfl <;> rfl⟩
set_option maxRecDepth 100000 in
set_option maxHeartbeats 1000000 in
theorem bookFact_any (w : World) (hT : Tab w.heap.size w) :
    Calls Tryd.prog 6 #[] w fun e w' => e = .returned (.bool true) ∧ Below w.heap.size w w' := by
  have HT := Lib.hid hT
  have hs0 : errV (setErr 0 1 7 ([] : List ByteArray).length) = .nilIface := by rw [show setErr 0 1 7 ([] : List ByteArray).length = 0 by decide]; rfl
  have hb0 : bSet (zeros4, []) 0 1 7 = (putE zeros4 0 1 7, [line017]) := if_pos (by decide)
  obtain ⟨T, hT1, hT2, hT3⟩ := text_facts
  have hTx := fun W Bk G vs vl (h : BookAt W w.heap.size Bk G vs vl (putE zeros4 0 1 7) [line017]) => Text_any W w.heap.size Bk G vs vl (putE zeros4 0 1 7) [line017] h (by simp) (fun k => by
    match k with
    | 0 => exact line017_size
    | k + 1 => simp [List.getD]; decide)
  rw [hT1] at hTx
  have HTX := Lib.hid hTx
  have HT3 := Lib.hid hT3
  have HS0 := Lib.hid hs0
  have HB0 := Lib.hid hb0
  clear hT hs0 hb0 hT1 hT3 hTx
  go_enter Tryd.func6, Tryd.ntmps6
  go_wp2_with fail
  go_at_call 13
  refine (New_any _).mono ?_
  rintro e w1 ⟨Bk, G, vs, rfl, hbk, hB, hb1⟩
  have HB := Lib.hid hB
  have hSet := Lib.hid (Set_any w1 w.heap.size Bk G vs (.slice none 0 0) (zeros4, []) hB hb1.size (HT.out.call hb1) 0 1 7)
  rw [HS0.out, HB0.out] at hSet
  clear hB
  go_wp2_with fail
  go_at_call 16
  refine (hSet.out).mono ?_
  rintro e w2 ⟨rfl, ⟨vl, hB2, _⟩, hK2⟩
  have HB2 := Lib.hid hB2
  have hb2 : Below w.heap.size w w2 := hb1.trans (hK2.below HB.out)
  clear hB2 hK2 hSet HB
  go_wp2_with fail
  go_at_call 9
  refine (Rows_any _ _ _ _ _ _ _ _ HB2.out).mono ?_
  rintro e w3 ⟨⟨G', vs', rfl, ho⟩, hb3⟩
  have hbr := below_trans hb2 hb3
  obtain ⟨g, rc, c1, c2, -, -, -, -, c3, -⟩ := ho.at (put_sq zeros_sq 0 1 7) (i := 0) (j := 1) (by omega) (by omega)
  rw [show fn (putE zeros4 0 1 7) 0 1 = 7 by decide] at c3
  clear ho
  go_wp2_with fail
  go_at_call 19
  refine (HTX.out _ _ _ _ _ (HB2.out.call hb3)).mono ?_
  rintro e w4 ⟨rfl, hb4⟩
  go_wp2_with fail
  go_at_call 19
  refine (HTX.out _ _ _ _ _ ((HB2.out.call hb3).call hb4)).mono ?_
  rintro e w5 ⟨rfl, hb5⟩
  go_wp2_with fail
  go_ret
  refine ⟨?_, below_trans (below_trans hbr hb4) hb5⟩
  show Ending.returned (Value.bool ((T.extract 0 8).toList == [115, 32, 48, 32, 49, 32, 55, 32])) = _
  rw [HT3.out, head_list]
  rfl
end Go.Proofs.YtkpoemfdepjkaaaDoor
