/- Contract of the reference's Cut. -/
import Derived.Test.YtokneabcgmjhdaaGreatDoorRefNum
import Derived.Test.YtokneabcgmjhdaaGreatDoorBookNote
import Derived.Deep.LoopGhost
namespace Go.Proofs.YtokneabcgmjhdaaGreatDoor
open Go.RowKit
set_option linter.unusedVariables false
set_option linter.unusedSimpArgs false

theorem cutL_snoc (c b : UInt8) : ∀ (l : List UInt8), cutL c (l ++ [b]) = if b = c then cutL c l ++ [[]] else (cutL c l).dropLast ++ [(cutL c l).getLastD [] ++ [b]]
  | [] => by
    by_cases h : b = c
    · rw [if_pos h, List.nil_append]
      show (if b = c then _ else _) = _
      rw [if_pos h]; rfl
    · rw [if_neg h, List.nil_append]
      show (if b = c then _ else _) = _
      rw [if_neg h]; rfl
  | x :: r => by
    have ih := cutL_snoc c b r
    rw [List.cons_append, cutL, cutL]
    by_cases hx : x = c
    · rw [if_pos hx, if_pos hx, ih]
      by_cases h : b = c
      · rw [if_pos h, if_pos h]; rfl
      · rw [if_neg h, if_neg h]
        cases hc : cutL c r with
        | nil => exact absurd hc (cutL_ne c r)
        | cons p q => rfl
    · rw [if_neg hx, if_neg hx, ih]
      cases hc : cutL c r with
      | nil => exact absurd hc (cutL_ne c r)
      | cons p q =>
        by_cases h : b = c
        · rw [if_pos h, if_pos h]; rfl
        · rw [if_neg h, if_neg h]
          cases q with
          | nil => rfl
          | cons p2 q2 => rfl
/-- pieces as they lie in memory -/
abbrev strsV (ps : List (List UInt8)) : List Value := ps.map fun p => Value.string (ba p)
theorem strsV_one (ps : List (List UInt8)) : ∀ u ∈ strsV ps, u.oneCell' = true := fun u hu => by
  obtain ⟨p, _, rfl⟩ := List.mem_map.1 hu
  rfl
theorem extract_ba (s : ByteArray) {l : List UInt8} (hl : l = s.data.toList) (f k : Nat) (hf : f ≤ k) : s.extract f k = ba ((l.take k).drop f) := by
  apply ByteArray.ext
  apply Array.ext'
  show (s.extract f k).data.toList = _
  rw [Lib.extract_data, hl]
  simp [List.drop_take]
set_option maxRecDepth 100000 in
set_option maxHeartbeats 2000000 in
theorem RCut_any (s : ByteArray) (c : UInt8) (w : World) (hs : s.size ≤ 100000) :
    Calls Tryz.prog 30 #[.string s, .int .u8 c.toNat] w fun e w' => (∃ v, e = .returned v ∧ w'.ownsRow w.heap.size 9 1 v (cutL c s.data.toList).length (strsV (cutL c s.data.toList))) ∧ Below w.heap.size w w' := by
  obtain ⟨ii, hi, hz0, hz1, hz2⟩ := info_parts info_str
  obtain ⟨l, hl⟩ : ∃ l, l = s.data.toList := ⟨_, rfl⟩
  have HL := Lib.hid hl
  have hll : l.length = s.size := by rw [hl, size_list]
  have HLL := Lib.hid hll
  rw [← hl]
  obtain ⟨B, hB⟩ : ∃ B, B = w.heap.size := ⟨_, rfl⟩
  rw [← hB]
  have HB := Lib.hid hB
  have hBw : B ≤ w.heap.size := by omega
  clear hl hll hB
  go_enter Tryz.func30, Tryz.ntmps30
  go_wp2_with fail
  go_loopg [5, 6, 7] (s.size + 2) (fun g v fv iv wr => ∃ (k f : Nat) (done : List (List UInt8)), s.size + 1 - k < g ∧ fv = .int .i64 f ∧ iv = .int .i64 k ∧ ((k ≤ s.size ∧ f ≤ k ∧ cutL c (l.take k) = done ++ [(l.take k).drop f]) ∨ (k = s.size + 1 ∧ done = cutL c l)) ∧ wr.ownsRow B 9 1 v done.length (strsV done) ∧ done.length ≤ k ∧ f ≤ k ∧ Below B w wr)
  case atStart => exact ⟨0, 0, [], by omega, rfl, rfl, Or.inl ⟨by omega, by omega, rfl⟩, World.ownsRow_nil _ _ _ _, by simp, by omega, Below.refl _ _⟩
  case round =>
    obtain ⟨k, f, done, hg, rfl, rfl, hst, hown, hdl, hfk0, hbel⟩ := hrel
    have hsz : B ≤ wr.heap.size := Nat.le_trans hBw hbel.size
    rcases hst with ⟨hk, hfk, hcut⟩ | ⟨hk, hdone⟩
    · have hki : (k : Int) ≤ s.size := by omega
      have hk0 : (0 : Int) ≤ k := by omega
      have hf0 : (0 : Int) ≤ f := by omega
      have hfki : (f : Int) ≤ k := by omega
      have hx := extract_ba s HL.out f k hfk
      have HX := Lib.hid hx
      have hn1 : ¬ (k : Int) < f := by omega
      have hn2 : ¬ (s.size : Int) < k := by omega
      obtain ⟨va, vn, vc, rfl⟩ := own_slice hown
      have HOW := Lib.hid hown
      have HC := Lib.hid hcut
      clear hx hown hcut
      by_cases hlt : k < s.size
      · have hkn : (((k : Nat) : Int) == (s.size : Int)) = false := beq_eq_false_iff_ne.2 (by omega)
        have hki2 : (k : Int) < s.size := by omega
        have hbk := byte_at (l := l) HL.out rfl hlt
        have htk := take_snoc_b l (k := k) (by rw [HLL.out]; exact hlt)
        rw [← hbk] at htk
        have hsn := cutL_snoc c (s[k]'hlt) (l.take k)
        rw [← htk] at hsn
        by_cases hc : s[k]'hlt = c
        · rw [if_pos hc, HC.out] at hsn
          have HSN := Lib.hid hsn
          have hcb : (((s[k]'hlt).toNat : Int) == (c.toNat : Int)) = true := by rw [hc]; simp
          have HTK := Lib.hid htk
          clear hsn htk hbk
          go_wp2_with (at_builtin; refine wpList_append_own1 (o := ⟨some 31, _, _, _, _, _⟩) rfl _ _ 38 rfl B 9 ii (.string ⟨#[]⟩) 16 Tryz.underlying38 hi hz0 hz1 hz2 rfl _ done.length (strsV done) rfl (World.ownsRow.alloc HOW.out _) (some ⟨wr.heap.size, 0, none⟩) 1 1 [.string (s.extract f k)] rfl rfl (fun h => by cases h) (one_new _ _ _) (by intro u hu; obtain rfl := List.mem_singleton.1 hu; rfl) (by unfold maxLen; omega) (by omega) (le_alloc hsz _) ?_; intro v3 w3 hown3 hgrow3)
          have hb3 := hbel.trans (((Below.refl B wr).alloc hsz _).trans (grown_below hgrow3 (le_alloc hsz _) (fun b hb => (World.ownsRow.lt HOW.out b hb).1)))
          have ho3 : w3.ownsRow B 9 1 v3 (done ++ [(l.take k).drop f]).length (strsV (done ++ [(l.take k).drop f])) := by
            rw [List.length_append]
            unfold strsV
            rw [List.map_append, List.map_singleton, ← HX.out]
            exact hown3
          go_roundg (gk - 1)
          case measure => omega
          case rel =>
            refine ⟨k + 1, k + 1, done ++ [(l.take k).drop f], by omega, by go_num, by go_num, Or.inl ⟨by omega, by omega, ?_⟩, ho3, ?_, by omega, hb3⟩
            · rw [HSN.out, List.drop_eq_nil_of_le (List.length_take_le _ _)]
            · rw [List.length_append, List.length_singleton]; omega
        · rw [if_neg hc, HC.out, List.dropLast_concat] at hsn
          have hlast : (done ++ [(l.take k).drop f]).getLastD [] = (l.take k).drop f := by simp
          rw [hlast] at hsn
          have hdr : (l.take (k + 1)).drop f = (l.take k).drop f ++ [s[k]'hlt] := by
            rw [htk, List.drop_append_of_le_length (by rw [List.length_take, HLL.out]; omega)]
          have HSN := Lib.hid (hsn.trans (by rw [← hdr]))
          have hcb : (((s[k]'hlt).toNat : Int) == (c.toNat : Int)) = false := beq_eq_false_iff_ne.2 (fun h => hc (UInt8.toNat_inj.1 (Int.ofNat.inj h)))
          clear hsn htk hbk hlast hdr hc
          go_wp2_with fail
          go_roundg (gk - 1)
          case measure => omega
          case rel => exact ⟨k + 1, f, done, by omega, rfl, by go_num, Or.inl ⟨by omega, by omega, HSN.out⟩, HOW.out, by omega, by omega, hbel⟩
      · obtain rfl : k = s.size := by omega
        have hkn : ((s.size : Int) == (s.size : Int)) = true := by simp
        have htk : l.take s.size = l := List.take_of_length_le (by rw [HLL.out]; exact Nat.le_refl _)
        have HTK := Lib.hid htk
        clear htk
        go_wp2_with (at_builtin; refine wpList_append_own1 (o := ⟨some 31, _, _, _, _, _⟩) rfl _ _ 38 rfl B 9 ii (.string ⟨#[]⟩) 16 Tryz.underlying38 hi hz0 hz1 hz2 rfl _ done.length (strsV done) rfl (World.ownsRow.alloc HOW.out _) (some ⟨wr.heap.size, 0, none⟩) 1 1 [.string (s.extract f s.size)] rfl rfl (fun h => by cases h) (one_new _ _ _) (by intro u hu; obtain rfl := List.mem_singleton.1 hu; rfl) (by unfold maxLen; omega) (by omega) (le_alloc hsz _) ?_; intro v3 w3 hown3 hgrow3)
        have hb3 := hbel.trans (((Below.refl B wr).alloc hsz _).trans (grown_below hgrow3 (le_alloc hsz _) (fun b hb => (World.ownsRow.lt HOW.out b hb).1)))
        have hfin : cutL c l = done ++ [(l.take s.size).drop f] := by rw [← HC.out, HTK.out]
        have ho3 : w3.ownsRow B 9 1 v3 (cutL c l).length (strsV (cutL c l)) := by
          rw [hfin, List.length_append]
          unfold strsV
          rw [List.map_append, List.map_singleton, ← HX.out]
          exact hown3
        go_roundg (gk - 1)
        case measure => omega
        case rel => exact ⟨s.size + 1, s.size + 1, cutL c l, by omega, by go_num, by go_num, Or.inr ⟨rfl, rfl⟩, ho3, by rw [hfin, List.length_append, List.length_singleton]; omega, by omega, hb3⟩
    · subst hk
      subst hdone
      have hki : ¬ ((s.size : Int) + 1) ≤ (s.size : Int) := by omega
      have HOW := Lib.hid hown
      clear hown
      go_wp2_with fail
      go_ret
      exact ⟨⟨_, rfl, HOW.out⟩, hbel⟩
end Go.Proofs.YtokneabcgmjhdaaGreatDoor
