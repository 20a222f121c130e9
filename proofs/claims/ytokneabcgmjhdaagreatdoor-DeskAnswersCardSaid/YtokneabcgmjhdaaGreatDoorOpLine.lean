/- Contracts of book's line, and of Open. -/
import Derived.Test.YtokneabcgmjhdaaGreatDoorOpApply
import Derived.Lib.LastIndexByte
namespace Go.Proofs.YtokneabcgmjhdaaGreatDoor
open Go.RowKit
set_option linter.unusedVariables false
set_option linter.unusedSimpArgs false

theorem bang_getD (s : ByteArray) (j : Nat) (hj : j < s.size) : s.data[j]! = s.data.toList.getD j 0 := by
  have h : j < s.data.size := hj
  rw [getElem!_pos s.data j h, List.getD_eq_getElem?_getD, Array.getElem?_toList, Array.getElem?_eq_getElem h]
  rfl
theorem lastIdx_none {s : ByteArray} (h : lastCut s.data.toList = none) : Lib.lastIndexByte s 32 = -1 := by
  have hm := lastCut_none.1 h
  rcases Lib.lastIdx_spec s 32 s.size with ⟨h1, _⟩ | ⟨i, h1, h2, h3, h4⟩
  · exact h1
  · exfalso
    rw [bang_getD s i h1] at h3
    have hl : i < s.data.toList.length := by rw [size_list]; exact h1
    rw [List.getD_eq_getElem?_getD, List.getElem?_eq_getElem hl] at h3
    have h6 : (s.data.toList[i]).toNat = 32 := Int.ofNat.inj h3
    have h5 : s.data.toList[i] = 32 := UInt8.toNat_inj.1 h6
    exact hm (h5 ▸ List.getElem_mem hl)
theorem lastIdx_some {s : ByteArray} {x y : List UInt8} (h : lastCut s.data.toList = some (x, y)) : Lib.lastIndexByte s 32 = x.length := by
  obtain ⟨e, hy⟩ := lastCut_some h
  have hsz : s.size = x.length + 1 + y.length := by rw [← size_list, e]; simp; omega
  have at' : ∀ j, j < s.size → s.data[j]! = (x ++ 32 :: y).getD j 0 := fun j hj => by rw [bang_getD s j hj, e]
  have hx : s.data[x.length]! = 32 := by rw [at' _ (by omega)]; simp [List.getD]
  rcases Lib.lastIdx_spec s 32 s.size with ⟨_, h2⟩ | ⟨i, h1, h2, h3, h4⟩
  · exfalso
    refine h2 x.length (by omega) ?_
    rw [hx]; rfl
  · have hi : i = x.length := by
      rcases Nat.lt_trichotomy i x.length with hlt | heq | hgt
      · exfalso
        refine h4 x.length hlt (by omega) ?_
        rw [hx]; rfl
      · exact heq
      · exfalso
        rw [at' i h1, List.getD_eq_getElem?_getD, List.getElem?_append_right (by omega)] at h3
        obtain ⟨t, ht⟩ : ∃ t, i - x.length = t + 1 := ⟨i - x.length - 1, by omega⟩
        rw [ht, List.getElem?_cons_succ] at h3
        have htl : t < y.length := by omega
        rw [List.getElem?_eq_getElem htl] at h3
        have h6 : (y[t]).toNat = 32 := Int.ofNat.inj h3
        have h5 : y[t] = 32 := UInt8.toNat_inj.1 h6
        exact hy (h5 ▸ List.getElem_mem htl)
    show Lib.lastIdx s 32 s.size = _
    rw [h2, hi]
theorem cut_front {s : ByteArray} {x y : List UInt8} (e : s.data.toList = x ++ 32 :: y) : s.extract 0 x.length = ba x := by
  apply ByteArray.ext
  apply Array.ext'
  show (s.extract 0 x.length).data.toList = _
  rw [Lib.extract_from_zero, e]
  simp
theorem cut_back {s : ByteArray} {x y : List UInt8} (e : s.data.toList = x ++ 32 :: y) : s.extract (x.length + 1) s.size = ba y := by
  apply ByteArray.ext
  apply Array.ext'
  show (s.extract (x.length + 1) s.size).data.toList = _
  rw [Lib.extract_to_end, e]
  simp
theorem lineE_none {l : List UInt8} {s : BS} (h : lastCut l = none) : lineE l s = (2, s) := by
  unfold lineE; rw [h]
theorem lineE_num {l x y : List UInt8} {s : BS} (h : lastCut l = some (x, y)) (h1 : numL y = none) : lineE l s = (2, s) := by
  unfold lineE; rw [h]; simp only; rw [h1]
theorem lineE_sum {l x y : List UInt8} {s : BS} {n : Nat} (h : lastCut l = some (x, y)) (h1 : numL y = some n) (h2 : (n : Int) ≠ sumOf (ba x)) : lineE l s = (6, s) := by
  unfold lineE; rw [h]; simp only; rw [h1]; simp only; rw [if_pos h2]
theorem lineE_rec {l x y : List UInt8} {s : BS} {n : Nat} (h : lastCut l = some (x, y)) (h1 : numL y = some n) (h2 : (n : Int) = sumOf (ba x)) : lineE l s = recE x s := by
  unfold lineE; rw [h]; simp only; rw [h1]; simp only; rw [if_neg (fun h => h h2)]

set_option maxRecDepth 100000 in
set_option maxHeartbeats 2000000 in
theorem Line_any (x : ByteArray) (w : World) (B Bk G : Nat) (vs : List Value) (vl : Value) (s : BS) (hB : BookAt w B Bk G vs vl s.1 s.2) (hBw : B ≤ w.heap.size) (hG : Glob B w) (hx : x.size ≤ 3000) :
    Calls Tryz.prog 96 #[.pointer (some ⟨Bk, 0, none⟩), .string x] w fun e w' => e = .returned (errV (lineE x.data.toList s).1) ∧ BookDone w w' B Bk G vs vl (lineE x.data.toList s).2.1 (lineE x.data.toList s).2.2 := by
  have HLI := Lib.hid (Tryz.strings_LastIndexByte x 32 (by omega))
  have HKE := Lib.hid (fun W (h : Below w.heap.size w W) => (show BookDone w W B Bk G vs vl s.1 s.2 from ⟨⟨vl, hB.call h, fun b hb => Or.inl hb⟩, BKept.of _ _ _ h⟩))
  cases hc : lastCut x.data.toList with
  | none =>
    have HRE := Lib.hid (lineE_none (s := s) hc)
    rw [lastIdx_none hc] at HLI
    clear hc hB hG
    go_enter Tryz.func96, Tryz.ntmps96
    go_wp2_with fail
    go_at_call 117
    refine (HLI.out _).mono ?_
    rintro e w1 ⟨rfl, rfl⟩
    go_wp2_with fail
    go_ret
    rw [HRE.out]
    exact ⟨rfl, HKE.out _ (Below.refl _ _)⟩
  | some p =>
    obtain ⟨a, y⟩ := p
    obtain ⟨hxe, hy⟩ := lastCut_some hc
    have hsz : x.size = a.length + 1 + y.length := by rw [← size_list, hxe]; simp; omega
    rw [lastIdx_some hc] at HLI
    have hf := cut_front hxe
    have hbk := cut_back hxe
    rw [hsz] at hbk
    have HF := Lib.hid hf
    have HBK := Lib.hid hbk
    have hN := fun W (h : Below w.heap.size w W) => Number_any (ba y) B W (hG.above hBw h) (Nat.le_trans hBw h.size) (by rw [ba_size]; omega)
    have hCS := fun W => Checksum_any (ba a) W (by rw [ba_size]; omega)
    rw [show csum (ba a).data.toList (ba a).size % 9973 = sumOf (ba a) from rfl] at hCS
    have hAP := fun W (h : Below w.heap.size w W) => Apply_any (ba a) W B Bk G vs vl s (hB.call h) (Nat.le_trans hBw h.size) (hG.above hBw h) (by rw [ba_size]; omega)
    rw [ba_toList] at hN hAP
    have HN := Lib.hid hN
    have HCS := Lib.hid hCS
    have HAP := Lib.hid hAP
    have HC := Lib.hid hc
    have ha0 : ¬ (a.length : Int) < 0 := by omega
    have ha1 : ¬ (x.size : Int) < (a.length : Int) := by omega
    have ha2 : ¬ (x.size : Int) < (a.length : Int) + 1 := by omega
    clear hc hxe hy hf hbk hN hCS hAP hB hG
    go_enter Tryz.func96, Tryz.ntmps96
    go_wp2_with fail
    go_at_call 117
    refine (HLI.out _).mono ?_
    rintro e w1 ⟨rfl, rfl⟩
    go_wp2_with fail
    rw [HBK.out]
    go_at_call 118
    refine (HN.out _ (Below.refl _ _)).mono ?_
    rintro e w2 ⟨⟨v, rfl, hv⟩, hb2⟩
    cases hn : numL y with
    | none =>
      have HRE := Lib.hid (lineE_num (s := s) HC.out hn)
      clear hn hv
      go_wp2_with fail
      go_ret
      rw [HRE.out]
      exact ⟨rfl, HKE.out _ hb2⟩
    | some n =>
      obtain rfl := hv n hn
      by_cases hs : (n : Int) = sumOf (ba a)
      · have HRE := Lib.hid (lineE_rec (s := s) HC.out hn hs)
        have hsb : ((n : Int) != sumOf (ba a)) = false := by simp [hs]
        clear hn hv hs
        go_wp2_with fail
        rw [HF.out]
        go_at_call 112
        refine (HCS.out _).mono ?_
        rintro e w3 ⟨rfl, rfl⟩
        go_wp2_with fail
        rw [HF.out]
        go_at_call 119
        refine (HAP.out _ hb2).mono ?_
        rintro e w3 ⟨rfl, ⟨vl3, hB3, hbl3⟩, hK3⟩
        have HB3 := Lib.hid hB3
        clear hB3
        go_wp2_with fail
        go_ret
        rw [HRE.out]
        exact ⟨rfl, ⟨vl3, HB3.out, fun b hb => (hbl3 b hb).imp id (fun h => Nat.le_trans hb2.size h)⟩, (BKept.of Bk vs vl hb2).trans hK3 (fun b h => Or.inl h)⟩
      · have HRE := Lib.hid (lineE_sum (s := s) HC.out hn hs)
        have hsb : ((n : Int) != sumOf (ba a)) = true := by simp [hs]
        clear hn hv hs
        go_wp2_with fail
        rw [HF.out]
        go_at_call 112
        refine (HCS.out _).mono ?_
        rintro e w3 ⟨rfl, rfl⟩
        go_wp2_with fail
        go_ret
        rw [HRE.out]
        exact ⟨rfl, HKE.out _ hb2⟩
end Go.Proofs.YtokneabcgmjhdaaGreatDoor
