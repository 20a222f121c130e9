import Derived.Test.YtkpoemfdepjkaaaGreatDoorBase
import Derived.Deep.LoopGhost
namespace Go.Proofs.YtkpoemfdepjkaaaGreatDoor
open Go.RowKit
/-- the sum of a record, so many bytes told -/
def csum (l : List UInt8) : Nat → Int
  | 0 => 0
  | k + 1 => csum l k + (l.getD k 0).toNat * ((k : Int) + 1)
theorem csum_bd (l : List UInt8) : ∀ k : Nat, k ≤ 1000000 → 0 ≤ csum l k ∧ csum l k ≤ 256000000 * k
  | 0, _ => by simp [csum]
  | k + 1, h => by
    obtain ⟨h1, h2⟩ := csum_bd l k (by omega)
    have h3 : (l.getD k 0).toNat < 256 := (l.getD k 0).toNat_lt
    have h4 : ((l.getD k 0).toNat : Int) * ((k : Int) + 1) ≤ 255 * 1000000 := Int.mul_le_mul (by omega) (by omega) (by omega) (by omega)
    have h5 : 0 ≤ ((l.getD k 0).toNat : Int) * ((k : Int) + 1) := Int.mul_nonneg (by omega) (by omega)
    unfold csum
    omega
theorem csum_wrap {l : List UInt8} {n k : Nat} {s : ByteArray} (hs : n ≤ 1000000) (h : l = s.data.toList ∧ n = s.size) (hk : k < n) (h' : k < s.size := by omega) :
    csum l (k + 1) = wrap64 (csum l k + wrap64 (wrap64 ((s[k]'h').toNat : Int) * ((k : Int) + 1))) := by
  have e : s[k]'h' = l.getD k 0 := by
    rw [h.1]
    have h2 : k < s.data.size := h'
    simp only [List.getD_eq_getElem?_getD, Array.getElem?_toList, ByteArray.getElem_eq_getElem_data]
    rw [Array.getElem?_eq_getElem h2]
    rfl
  rw [e]
  have h3 : (l.getD k 0).toNat < 256 := (l.getD k 0).toNat_lt
  have h4 : ((l.getD k 0).toNat : Int) * ((k : Int) + 1) ≤ 255 * 1000000 := Int.mul_le_mul (by omega) (by omega) (by omega) (by omega)
  have h5 : 0 ≤ ((l.getD k 0).toNat : Int) * ((k : Int) + 1) := Int.mul_nonneg (by omega) (by omega)
  obtain ⟨h1, h2⟩ := csum_bd l k (by omega)
  rw [wrap_in (n := ((l.getD k 0).toNat : Int)) (by omega) (by omega), wrap_in (n := ((l.getD k 0).toNat : Int) * ((k : Int) + 1)) (by omega) (by omega), wrap_in (by omega) (by omega)]
  rfl
theorem csum_mod (l : List UInt8) {n : Nat} (hs : n ≤ 1000000) : (csum l n).tmod 9973 = csum l n % 9973 := Int.tmod_eq_emod_of_nonneg (csum_bd l n hs).1
theorem Checksum_any (s : ByteArray) (w : World) (hs : s.size ≤ 1000000) :
    Calls Tryz.prog 44 #[.string s] w fun e w' => e = .returned (.int .i64 (csum s.data.toList s.size % 9973)) ∧ w = w' := by
  obtain ⟨l, hl⟩ : ∃ l, l = s.data.toList := ⟨_, rfl⟩
  obtain ⟨n, hn⟩ : ∃ n, n = s.size := ⟨_, rfl⟩
  rw [← hl, ← hn]
  have HL := Lib.hid (show l = s.data.toList ∧ n = s.size from ⟨hl, hn⟩)
  rw [← hn] at hs
  clear hl
  go_enter Tryz.func44, Tryz.ntmps44
  go_wp2_with fail
  go_loopg [3, 7] (n + 1) (fun g t i wr => ∃ k : Nat, k ≤ n ∧ n - k < g ∧ t = .int .i64 (csum l k) ∧ i = .int .i64 k ∧ wr = w)
  case atStart => exact ⟨0, by omega, by omega, rfl, rfl, rfl⟩
  case round =>
    obtain ⟨k, hk, hg, rfl, rfl, rfl⟩ := hrel
    by_cases hlt : k < n
    · go_wp2_with fail
      go_roundg (n - k)
      case measure => omega
      case rel =>
        refine ⟨k + 1, by omega, by omega, ?_, by go_num, rfl⟩
        rw [csum_wrap hs HL.out hlt]
    · obtain rfl : n = k := by omega
      have hd := csum_mod l hs
      go_wp2_with fail
      go_ret
      refine ⟨?_, rfl⟩
      rw [← HL.out.2]
      show Ending.returned (Value.int .i64 ((csum l n).tmod 9973)) = _
      rw [hd]
end Go.Proofs.YtkpoemfdepjkaaaGreatDoor
