/- Contract of the reference's Sum. -/
import Derived.Test.YtokneabcgmjhdaaGreatDoorBookNote
import Derived.Test.YtokneabcgmjhdaaGreatDoorBase
namespace Go.Proofs.YtokneabcgmjhdaaGreatDoor
open Go.RowKit
set_option linter.unusedVariables false
set_option linter.unusedSimpArgs false
theorem byte_at {l : List UInt8} {n k : Nat} {s : ByteArray} (h : l = s.data.toList) (hn : n = s.size) (hk : k < n) (h' : k < s.size := by omega) : s[k]'h' = l.getD k 0 := by
  rw [h]
  have h2 : k < s.data.size := h'
  simp only [List.getD_eq_getElem?_getD, Array.getElem?_toList, ByteArray.getElem_eq_getElem_data]
  rw [Array.getElem?_eq_getElem h2]
  rfl
theorem rsum_step {l : List UInt8} {n k : Nat} {s : ByteArray} (hs : n ≤ 1000000) (h : l = s.data.toList) (hn : n = s.size) (hk : k < n) (h' : k < s.size := by omega) :
    csum l n - csum l k = wrap64 ((csum l n - csum l (k + 1)) + wrap64 (((k : Int) + 1) * wrap64 ((s[k]'h').toNat : Int))) := by
  rw [byte_at h hn hk]
  have h3 : (l.getD k 0).toNat < 256 := (l.getD k 0).toNat_lt
  have h4 : ((k : Int) + 1) * ((l.getD k 0).toNat : Int) ≤ 1000000 * 255 := Int.mul_le_mul (by omega) (by omega) (by omega) (by omega)
  have h5 : 0 ≤ ((k : Int) + 1) * ((l.getD k 0).toNat : Int) := Int.mul_nonneg (by omega) (by omega)
  obtain ⟨h1, h2⟩ := csum_bd l (k + 1) (by omega)
  obtain ⟨h6, h7⟩ := csum_bd l n (by omega)
  have h8 : ((l.getD k 0).toNat : Int) * ((k : Int) + 1) = ((k : Int) + 1) * ((l.getD k 0).toNat : Int) := Int.mul_comm _ _
  have h9 : csum l (k + 1) = csum l k + (l.getD k 0).toNat * ((k : Int) + 1) := rfl
  rw [wrap_in (n := ((l.getD k 0).toNat : Int)) (by omega) (by omega), wrap_in (n := ((k : Int) + 1) * ((l.getD k 0).toNat : Int)) (by omega) (by omega), wrap_in (by omega) (by omega)]
  omega
theorem RSum_any (s : ByteArray) (w : World) (hs : s.size ≤ 1000000) :
    Calls Tryz.prog 82 #[.string s] w fun e w' => e = .returned (.int .i64 (sumOf s)) ∧ w = w' := by
  unfold sumOf
  obtain ⟨l, hl⟩ : ∃ l, l = s.data.toList := ⟨_, rfl⟩
  rw [← hl]
  have HL := Lib.hid hl
  clear hl
  go_enter Tryz.func82, Tryz.ntmps82
  go_wp2_with fail
  go_loopg [3, 4] (s.size + 1) (fun g t i wr => ∃ k : Nat, ∃ x : Int, k ≤ s.size ∧ k < g ∧ t = .int .i64 (csum l s.size - csum l k) ∧ i = .int .i64 x ∧ x = (k : Int) - 1 ∧ wr = w)
  case atStart => exact ⟨s.size, _, by omega, by omega, by rw [Int.sub_self], rfl, rfl, rfl⟩
  case round =>
    obtain ⟨k, x, hk, hg, rfl, rfl, hx, rfl⟩ := hrel
    by_cases hlt : 0 < k
    · obtain ⟨j, rfl⟩ : ∃ j, k = j + 1 := ⟨k - 1, by omega⟩
      obtain rfl : x = (j : Int) := by omega
      have hj : j < s.size := by omega
      clear hx
      go_wp2_with fail
      go_roundg (gk - 1)
      case measure => omega
      case rel =>
        refine ⟨j, _, by omega, by omega, ?_, rfl, by go_num, rfl⟩
        rw [rsum_step hs HL.out rfl hj]
    · obtain rfl : k = 0 := by omega
      obtain rfl : x = -1 := by omega
      have hd := csum_mod l hs
      have h0 : csum l s.size - csum l 0 = csum l s.size := by show csum l s.size - 0 = _; omega
      rw [h0]
      clear hx
      go_wp2_with fail
      go_ret
      exact ⟨rfl, rfl⟩
end Go.Proofs.YtokneabcgmjhdaaGreatDoor
