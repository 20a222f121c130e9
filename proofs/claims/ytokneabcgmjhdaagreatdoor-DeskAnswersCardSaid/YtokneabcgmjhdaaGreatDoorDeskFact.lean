/- Plain: closed facts of sessions; how long the answers are; Run's contract as the laws use it. -/
import Derived.Test.YtokneabcgmjhdaaGreatDoorDeskRun
import Derived.Test.YtokneabcgmjhdaaGreatDoorDeskB
namespace Go.Proofs.YtokneabcgmjhdaaGreatDoor
open Go.RowKit
set_option linter.unusedVariables false
set_option linter.unusedSimpArgs false

theorem zero_det : G_det zeros4 = 0 := by decide +kernel
theorem fact_det : sessE [100, 101, 116] = [48, 10] := by
  have h1 : slines [100, 101, 116] = [kDet] := slines_free (by decide) (by decide)
  unfold sessE
  rw [if_neg (by decide), h1]
  show (answerE kDet (zeros4, [])).1 ++ 10 :: [] = _
  rw [answer_det]
  show Lib.decDigits (G_det zeros4).toNat ++ [10] = _
  rw [zero_det, Lib.decDigits_one (by decide)]
  rfl
theorem answer_nil (s : BS) : answerE [] s = (kBad, s) := rfl
theorem answer_b (s : BS) : answerE [98] s = (kBad, s) := rfl
theorem fact_lines : sessE [115, 101, 116, 32, 48, 32, 48, 32, 49, 10, 10, 98] = [111, 107, 10, 98, 97, 100, 10, 98, 97, 100, 10] := by
  have h1 : slines [115, 101, 116, 32, 48, 32, 48, 32, 49, 10, 10, 98] = [setT 0 0 1, [], [98]] := by
    have e : setT 0 0 1 = [115, 101, 116, 32, 48, 32, 48, 32, 49] := by
      unfold setT
      rw [Lib.decDigits_one (by decide), Lib.decDigits_one (by decide)]
      rfl
    rw [e]
    decide +kernel
  unfold sessE
  rw [if_neg (by decide), h1]
  show (answerE (setT 0 0 1) (zeros4, [])).1 ++ 10 :: ((answerE [] (answerE (setT 0 0 1) (zeros4, [])).2).1 ++ 10 :: ((answerE [98] (answerE [] (answerE (setT 0 0 1) (zeros4, [])).2).2).1 ++ 10 :: [])) = _
  rw [answer_set (by omega) (by omega) (by omega), answer_nil, answer_b]
  decide +kernel
theorem sessR_len : ∀ (ls : List (List UInt8)) {s : BS}, DeskOk s → (sessR ls s).1.length ≤ 11 * ls.length
  | [], s, _ => by simp [sessR]
  | l :: r, s, h => by
    have h1 := sessR_len r (h.answer l)
    have h2 := answerE_len h l
    rw [sessR, List.length_append, List.length_cons, List.length_cons]
    omega
theorem sessE_len (t : List UInt8) : (sessE t).length ≤ 40000 := by
  unfold sessE
  split
  · decide
  · have h1 := sessR_len (slines t) DeskOk.zero
    have h2 := slines_len _ t (Nat.le_refl _)
    have h3 := List.count_le_length (a := (10 : UInt8)) (l := t)
    split at h2 <;> omega
/-- Run, as the laws use it -/
theorem Run_list (x : ByteArray) (l : List UInt8) (hl : x.data.toList = l) {w : World} (hG : Glob w.heap.size w) (hg : Handle w) (W : World) (h : Below w.heap.size w W) :
    Calls Tryz.prog 8 #[.string x] W fun e w' => e = .returned (.string (ba (sessE l))) ∧ Below W.heap.size W w' := by
  have := Run_any x W ((hG.call h).mono h.size) (hg.call h)
  rw [hl] at this
  exact this
theorem Run_det {w : World} (hG : Glob w.heap.size w) (hg : Handle w) (W : World) (h : Below w.heap.size w W) :
    Calls Tryz.prog 8 #[.string ⟨#[100, 101, 116]⟩] W fun e w' => e = .returned (.string ⟨#[48, 10]⟩) ∧ Below W.heap.size W w' := by
  have := Run_list ⟨#[100, 101, 116]⟩ _ rfl hG hg W h
  rw [fact_det] at this
  exact this
theorem Last_list (l : List UInt8) (W : World) : Calls Tryz.prog 12 #[.string (ba (sessE l))] W fun e w' => e = .returned (.string (ba (lastL (sessE l)))) ∧ W = w' := by
  have := LastLine_any (ba (sessE l)) W (by rw [ba_size]; have := sessE_len l; omega)
  rw [ba_toList] at this
  exact this
theorem TLast_list (l : List UInt8) (W : World) : Calls Tryz.prog 14 #[.string (ba (sessE l))] W fun e w' => e = .returned (.string (ba (lastL (sessE l)))) ∧ W = w' := by
  have := TopLast_any (ba (sessE l)) W (by rw [ba_size]; have := sessE_len l; omega)
  rw [ba_toList] at this
  exact this
theorem ext_upto (s : ByteArray) (k : Nat) : (s.extract 0 k).data.toList = s.data.toList.take k := by
  simp [ByteArray.data_extract]
theorem byte_get (s : ByteArray) (l : List UInt8) (hl : l = s.data.toList) {k : Nat} (hk : k < s.size) : s[k] = l.getD k 0 := by
  subst hl
  have h2 : k < s.data.toList.length := by rw [size_list]; exact hk
  rw [List.getD_eq_getElem?_getD, List.getElem?_eq_getElem h2]
  simp [ByteArray.getElem_eq_getElem_data]
theorem byte_beq {x y : UInt8} : (((x.toNat : Int) == (y.toNat : Int)) = true ∧ (((x.toNat : Int) != (y.toNat : Int)) = false) ∧ x = y) ∨ (((x.toNat : Int) == (y.toNat : Int)) = false ∧ (((x.toNat : Int) != (y.toNat : Int)) = true) ∧ x ≠ y) := by
  by_cases h : x = y
  · exact Or.inl ⟨by simp [h], by simp [h], h⟩
  · have h2 : ((x.toNat : Int)) ≠ (y.toNat : Int) := fun e => h (UInt8.toNat_inj.1 (by omega))
    exact Or.inr ⟨by simpa using h2, by simpa using h2, h⟩
theorem dig_ba (u : Nat) : dig (u : Int) = ba (Lib.decDigits u) := by rw [← ba_data (dig (u : Int)), dig_list]
theorem RDigits (u : Nat) (h : u ≤ 1000000) (w : World) :
    Calls Tryz.prog 11 #[.int .i64 (u : Int)] w fun e w' => e = .returned (.string (ba (Lib.decDigits u))) ∧ Below w.heap.size w w' := by
  rw [← dig_ba]
  exact Digits_any u w (by omega)
end Go.Proofs.YtokneabcgmjhdaaGreatDoor
