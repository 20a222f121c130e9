/- Contracts of strings.Split at one byte, and of book's apply. -/
import Derived.Test.YtokneabcgmjhdaaGreatDoorOpNum
import Derived.Test.YtokneabcgmjhdaaGreatDoorBookPut
namespace Go.Proofs.YtokneabcgmjhdaaGreatDoor
open Go.RowKit
set_option linter.unusedVariables false
set_option linter.unusedSimpArgs false

theorem map_ba {l : List ByteArray} {m : List (List UInt8)} (h : l.map (·.data.toList) = m) : l = m.map ba := by
  rw [← h, List.map_map]
  conv => lhs; rw [← List.map_id l]
  exact List.map_congr_left fun s _ => (ba_data s).symm
/-- the cells of the pieces -/
abbrev piecesO (ps : List (List UInt8)) : Obj := .cells (ps.map fun p => Value.string (ba p)).toArray 9
theorem Split_any (s : ByteArray) (c : UInt8) (B : Nat) (w : World) (hG : Glob B w) (hs : s.size ≤ 100000) :
    Calls Tryz.prog 16 #[.string s, .string ⟨#[c]⟩] w fun e w' => e = .returned (.slice (some ⟨w.heap.size, 0, none⟩) (cutL c s.data.toList).length (cutL c s.data.toList).length) ∧ w' = w.alloc (piecesO (cutL c s.data.toList)) := by
  obtain ⟨-, -, -, m, hm⟩ := hG
  have hc : Lib.countB s ⟨#[c]⟩ = s.data.toList.count c := by
    show Lib.count s.data.toList [c] = _
    exact Lib.count_one c _
  have hp : Lib.splitB ⟨#[c]⟩ 0 (Lib.countB s ⟨#[c]⟩) s = (cutL c s.data.toList).map ba := by
    refine map_ba ?_
    rw [Lib.splitB_data, hc]
    exact splitK_cut c _ _ rfl
  refine (Tryz.strings_Split s ⟨#[c]⟩ m w (by omega) hm (show 1 ≤ 1 from Nat.le_refl 1)).mono ?_
  rintro e w' ⟨rfl, rfl⟩
  rw [hp, hc, cutL_len, List.map_map]
  exact ⟨rfl, rfl⟩
theorem pieces_at {W : World} {b : Nat} {ps : List (List UInt8)} (h : W.heap[b]? = some (piecesO ps)) {i : Nat} (hi : i < ps.length) : W.cell? ⟨b, i, none⟩ = some (.string (ba (ps.getD i []))) := by
  simp [World.cell?, h, hi, List.getD]

theorem recE_len {x : List UInt8} {s : BS} (h : (cutL 32 x).length ≠ 4) : recE x s = (2, s) := by
  unfold recE
  split
  · rename_i w a b c e
    rw [e] at h
    exact absurd rfl h
  · rfl
theorem recE_word {x : List UInt8} {s : BS} {w a b c : List UInt8} (h : cutL 32 x = [w, a, b, c]) (h1 : w ≠ [115]) (h2 : w ≠ [97]) : recE x s = (2, s) := by
  unfold recE
  rw [h]
  simp [h1, h2]
theorem recE_num {x : List UInt8} {s : BS} {w a b c : List UInt8} (h : cutL 32 x = [w, a, b, c]) (h1 : numL a = none ∨ numL b = none ∨ numL c = none) : recE x s = (2, s) := by
  unfold recE
  rw [h]
  simp only
  split
  · split
    · rename_i e1 e2 e3
      rw [e1, e2, e3] at h1
      simp at h1
    · rfl
  · rfl
theorem recE_set {x : List UInt8} {s : BS} {w a b c : List UInt8} {i j n : Nat} (h : cutL 32 x = [w, a, b, c]) (hw : w = [115]) (h1 : numL a = some i) (h2 : numL b = some j) (h3 : numL c = some n) : recE x s = (setErr i j n s.2.length, bSet s i j n) := by
  unfold recE
  rw [h]
  simp [hw, h1, h2, h3]
theorem recE_add {x : List UInt8} {s : BS} {w a b c : List UInt8} {i j n : Nat} (h : cutL 32 x = [w, a, b, c]) (hw : w = [97]) (h1 : numL a = some i) (h2 : numL b = some j) (h3 : numL c = some n) : recE x s = (addErr i j n s.2.length, bAdd s i j n) := by
  unfold recE
  rw [h]
  simp [hw, h1, h2, h3]
/-- the numbers of a record, so many read -/
def arrTo (v : Nat → Int) (k : Nat) : Array Value := #[.int .i64 (if 0 < k then v 0 else 0), .int .i64 (if 1 < k then v 1 else 0), .int .i64 (if 2 < k then v 2 else 0)]
theorem arrTo_step (v : Nat → Int) {k : Nat} (hk : k < 3) : (arrTo v k).setIfInBounds k (.int .i64 (v k)) = arrTo v (k + 1) := by
  have : k = 0 ∨ k = 1 ∨ k = 2 := by omega
  rcases this with rfl | rfl | rfl <;> rfl
theorem arr_cell {W : World} {b k : Nat} {v : Nat → Int} {t : TypeId} (h : W.heap[b]? = some (.cells (arrTo v k) t (0, 0))) (hk : k < 3) : (∃ u, W.cell? ⟨b, k, none⟩ = some u) ∧ W.frozen? ⟨b, k, none⟩ = false := by
  refine ⟨?_, by simp [World.frozen?, h]⟩
  have : k = 0 ∨ k = 1 ∨ k = 2 := by omega
  rcases this with rfl | rfl | rfl <;> exact ⟨_, by simp [World.cell?, h, arrTo]; rfl⟩
theorem arr_store {W : World} {b k : Nat} {v : Nat → Int} {t : TypeId} (h : W.heap[b]? = some (.cells (arrTo v k) t (0, 0))) (hk : k < 3) : (W.setCell ⟨b, k, none⟩ (.int .i64 (v k))).heap[b]? = some (.cells (arrTo v (k + 1)) t (0, 0)) := by
  show (W.heap.modify b _)[b]? = _
  rw [Array.getElem?_modify, if_pos rfl, h, ← arrTo_step v hk]
  rfl
/-- the value of a piece -/
def pv (ps : List (List UInt8)) (j : Nat) : Int := ((numL (ps.getD (j + 1) [])).getD 0 : Nat)
theorem four_of {ps : List (List UInt8)} (h : ps.length = 4) : ps = [ps.getD 0 [], ps.getD 1 [], ps.getD 2 [], ps.getD 3 []] := by
  match ps, h with
  | [a, b, c, d], _ => rfl
theorem cut_size {c : UInt8} : ∀ {l p : List UInt8}, p ∈ cutL c l → p.length ≤ l.length
  | [], p, h => by
    have : p = [] := by simpa [cutL] using h
    rw [this]; exact Nat.le_refl _
  | b :: r, p, h => by
    rw [cutL] at h
    split at h
    · rcases List.mem_cons.1 h with rfl | h
      · simp
      · have := cut_size h
        simp; omega
    · split at h
      · rename_i e
        rcases List.mem_cons.1 h with rfl | h
        · have := cut_size (l := r) (c := c) (by rw [e]; exact List.mem_cons_self)
          simpa using this
        · have := cut_size (l := r) (c := c) (by rw [e]; exact List.mem_cons_of_mem _ h)
          simp; omega
      · have : p = [b] := by simpa using h
        rw [this]; simp
theorem piece_size {c : UInt8} {l : List UInt8} (j : Nat) : (ba ((cutL c l).getD j [])).size ≤ l.length := by
  rw [ba_size]
  rcases Nat.lt_or_ge j (cutL c l).length with h | h
  · refine cut_size (c := c) ?_
    rw [List.getD_eq_getElem?_getD, List.getElem?_eq_getElem h]
    simp
  · rw [List.getD_eq_getElem?_getD, List.getElem?_eq_none h]
    simp
set_option maxRecDepth 100000 in
set_option maxHeartbeats 2000000 in
theorem Apply_any (x : ByteArray) (w : World) (B Bk G : Nat) (vs : List Value) (vl : Value) (s : BS) (hB : BookAt w B Bk G vs vl s.1 s.2) (hBw : B ≤ w.heap.size) (hG : Glob B w) (hx : x.size ≤ 3000) :
    Calls Tryz.prog 119 #[.pointer (some ⟨Bk, 0, none⟩), .string x] w fun e w' => e = .returned (errV (recE x.data.toList s).1) ∧ BookDone w w' B Bk G vs vl (recE x.data.toList s).2.1 (recE x.data.toList s).2.2 := by
  have HSP := Lib.hid (Split_any x 32 B w hG (by omega))
  obtain ⟨ps, hps⟩ : ∃ ps, ps = cutL 32 x.data.toList := ⟨_, rfl⟩
  have HPS := Lib.hid (fun j => (show (ba (ps.getD j [])).size ≤ 100000 from by rw [hps]; have := piece_size (c := 32) (l := x.data.toList) j; rw [size_list] at this; omega))
  rw [← hps] at HSP
  have HB := Lib.hid hB
  have HG := Lib.hid hG
  have hw1 : Below w.heap.size w (w.alloc (piecesO ps)) := (Below.refl _ _).alloc (Nat.le_refl _) _
  have hkeep : ∀ W, Below w.heap.size w W → BookDone w W B Bk G vs vl s.1 s.2 := fun W h => ⟨⟨vl, hB.call h, fun b hb => Or.inl hb⟩, BKept.of _ _ _ h⟩
  have HKE := Lib.hid hkeep
  by_cases h4 : ps.length = 4
  · have hfour := four_of h4
    obtain ⟨p0, hp0⟩ : ∃ p, p = ps.getD 0 [] := ⟨_, rfl⟩
    have hcell : ∀ W : World, W.heap[w.heap.size]? = some (piecesO ps) → ∀ j, j < 4 → W.cell? ⟨w.heap.size, j, none⟩ = some (.string (ba (ps.getD j []))) := fun W h j hj => pieces_at h (by omega)
    have HC := Lib.hid hcell
    have hq0 : (w.alloc (piecesO ps)).cell? ⟨w.heap.size, 0, none⟩ = some (.string (ba p0)) := by rw [hp0]; exact hcell _ (heap_alloc_new _ _) 0 (by omega)
    rw [h4] at HSP
    have hword : ((p0 == [115]) = true ∧ p0 = [115]) ∨ ((p0 == [115]) = false ∧ (p0 == [97]) = true ∧ p0 = [97]) ∨ ((p0 == [115]) = false ∧ (p0 == [97]) = false ∧ p0 ≠ [115] ∧ p0 ≠ [97]) := by
      by_cases h1 : p0 = [115]
      · exact Or.inl ⟨by simp [h1], h1⟩
      · by_cases h2 : p0 = [97]
        · exact Or.inr (Or.inl ⟨by simp [h1], by simp [h2], h2⟩)
        · exact Or.inr (Or.inr ⟨by simp [h1], by simp [h2], h1, h2⟩)
    have HPS0 := Lib.hid hps
    have HFO := Lib.hid hfour
    have HP0 := Lib.hid hp0
    clear hB hG hkeep hcell hps hfour hp0
    rcases hword with ⟨hb1, hpw⟩ | ⟨hb1, hb2, hpw⟩ | ⟨hb1, hb2, hpw, hpw2⟩
    · have hfin : (∀ j, j < 3 → (numL (ps.getD (j + 1) [])).isSome = true) → recE x.data.toList s = (setErr (pv ps 0) (pv ps 1) (pv ps 2) s.2.length, bSet s (pv ps 0) (pv ps 1) (pv ps 2)) := fun h => by
        obtain ⟨n0, e0⟩ := Option.isSome_iff_exists.1 (h 0 (by omega))
        obtain ⟨n1, e1⟩ := Option.isSome_iff_exists.1 (h 1 (by omega))
        obtain ⟨n2, e2⟩ := Option.isSome_iff_exists.1 (h 2 (by omega))
        have v0 : pv ps 0 = n0 := by unfold pv; rw [e0]; rfl
        have v1 : pv ps 1 = n1 := by unfold pv; rw [e1]; rfl
        have v2 : pv ps 2 = n2 := by unfold pv; rw [e2]; rfl
        rw [v0, v1, v2]
        exact recE_set (HPS0.out.symm.trans HFO.out) (HP0.out.symm.trans hpw) e0 e1 e2
      have hbad : (∃ j, j < 3 ∧ numL (ps.getD (j + 1) []) = none) → recE x.data.toList s = (2, s) := fun ⟨j, hj, e⟩ => by
        refine recE_num (HPS0.out.symm.trans HFO.out) ?_
        have : j = 0 ∨ j = 1 ∨ j = 2 := by omega
        rcases this with rfl | rfl | rfl
        · exact Or.inl e
        · exact Or.inr (Or.inl e)
        · exact Or.inr (Or.inr e)
      have HFIN := Lib.hid hfin
      have HBAD := Lib.hid hbad
      clear hpw hfin hbad
      go_enter Tryz.func119, Tryz.ntmps119
      go_wp2_with fail
      go_at_call 16
      refine HSP.out.mono ?_
      rintro e w1 ⟨rfl, hw1e⟩
      have hc1 : w1.cell? ⟨w.heap.size, 0, none⟩ = some (.string (ba p0)) := by rw [hw1e]; exact hq0
      have hbw1 : Below w.heap.size w w1 := by rw [hw1e]; exact hw1
      have hh1 : w1.heap[w.heap.size]? = some (piecesO ps) := by rw [hw1e]; exact heap_alloc_new _ _
      have hsz1 : w1.heap.size = w.heap.size + 1 := by rw [hw1e]; simp
      clear hw1e hq0 hw1
      go_wp2_with fail
      go_loopg [32] 4 (fun g i wr => ∃ k : Nat, k ≤ 3 ∧ 3 - k < g ∧ i = .int .i64 k ∧ (∀ j, j < k → (numL (ps.getD (j + 1) [])).isSome = true) ∧ wr.heap[w.heap.size]? = some (piecesO ps) ∧ wr.heap[w.heap.size + 1]? = some (.cells (arrTo (pv ps) k) 168 (0, 0)) ∧ Below w.heap.size w wr)
      case atStart =>
        refine ⟨0, by omega, by omega, rfl, fun j hj => by omega, ?_, ?_, hbw1.alloc (by omega) _⟩
        · rw [heap_alloc_old _ _ (by omega)]; exact hh1
        · rw [← hsz1]; exact heap_alloc_new _ _
      case round =>
        clear hc1 hbw1 hh1 hsz1
        obtain ⟨k, hk, hg, rfl, hsome, hP, hA, hbel⟩ := hrel
        have q0 := HC.out wr hP 0 (by omega)
        rw [← HP0.out] at q0
        have hBsz := hbel.size
        have l1 : w.heap.size + 1 < wr.heap.size := (Array.getElem?_eq_some_iff.1 hA).1
        by_cases hlt : k < 3
        · have q1 := HC.out wr hP (k + 1) (by omega)
          have hk0 : (0 : Int) ≤ k := by omega
          have hk3 : (k : Int) < 3 := by omega
          have hN := Number_any (ba (ps.getD (k + 1) [])) B wr (HG.out.call (hbel.mono hBw)) (Nat.le_trans hBw hBsz) (HPS.out _)
          rw [ba_toList] at hN
          have hpv : pv ps k = ((numL (ps.getD (k + 1) [])).getD 0 : Nat) := rfl
          have HST := Lib.hid (arrTo_step (pv ps) hlt)
          generalize hpc : ps.getD (k + 1) [] = pc at q1 hN hpv
          have HPC := Lib.hid hpc
          rw [Nat.add_comm k 1] at q1
          have HA := Lib.hid hA
          have HP := Lib.hid hP
          have HSM := Lib.hid hsome
          have HPV := Lib.hid hpv
          clear hA hP hsome hpv hpc
          go_wp2_with fail
          go_at_call 118
          refine hN.mono ?_
          rintro e w2 ⟨⟨v, rfl, hv⟩, hb2⟩
          have hA2 : w2.heap[w.heap.size + 1]? = some (.cells (arrTo (pv ps) k) 168 (0, 0)) := by rw [hb2.block _ l1]; exact HA.out
          have hP2 : w2.heap[w.heap.size]? = some (piecesO ps) := by rw [hb2.block _ (by omega)]; exact HP.out
          have hbel2 := below_trans hbel hb2
          cases hn : numL pc with
          | none =>
            have hre := HBAD.out ⟨k, hlt, by rw [HPC.out]; exact hn⟩
            have HRE := Lib.hid hre
            clear hn hre hv hA2 hP2 HFIN HBAD HST HSM HPV HPC
            go_wp2_with fail
            go_ret
            rw [HRE.out]
            exact ⟨rfl, HKE.out _ hbel2⟩
          | some m =>
            obtain rfl := hv m hn
            have hpvm : pv ps k = (m : Int) := by rw [HPV.out, hn]; rfl
            have HN := Lib.hid hn
            obtain ⟨⟨u, hu⟩, hfz⟩ := arr_cell hA2 hlt
            have hst := arr_store hA2 hlt
            have hP3 : (w2.setCell ⟨w.heap.size + 1, k, none⟩ (.int .i64 m)).heap[w.heap.size]? = some (piecesO ps) := by
              rw [heap_setCell_other _ _ _ _ (by simp)]; exact hP2
            have hbel3 := hbel2.setCell (p := ⟨w.heap.size + 1, k, none⟩) (show w.heap.size ≤ w.heap.size + 1 by omega) (.int .i64 m)
            rw [hpvm] at hst
            have HST2 := Lib.hid hst
            have HP3 := Lib.hid hP3
            clear hv hn hst hP3 hpvm
            go_wp2_with fail
            go_roundg (3 - k)
            case measure => omega
            case rel =>
              refine ⟨k + 1, by omega, by omega, by go_num, fun j hj => ?_, HP3.out, HST2.out, hbel3⟩
              by_cases hjk : j < k
              · exact HSM.out j hjk
              · obtain rfl : j = k := by omega
                rw [HPC.out, HN.out]; rfl
        · obtain rfl : k = 3 := by omega
          have hre := HFIN.out hsome
          have a0 : wr.cell? ⟨w.heap.size + 1, 0, none⟩ = some (.int .i64 (pv ps 0)) := by simp [World.cell?, hA, arrTo]
          have a1 : wr.cell? ⟨w.heap.size + 1, 1, none⟩ = some (.int .i64 (pv ps 1)) := by simp [World.cell?, hA, arrTo]
          have a2 : wr.cell? ⟨w.heap.size + 1, 2, none⟩ = some (.int .i64 (pv ps 2)) := by simp [World.cell?, hA, arrTo]
          have hS := Set_any wr B Bk G vs vl s (HB.out.call hbel) (Nat.le_trans hBw hBsz) ((HG.out.call (hbel.mono hBw)).1) (pv ps 0) (pv ps 1) (pv ps 2)
          have HRE := Lib.hid hre
          clear hre HFIN HBAD hsome hP hA
          go_wp2_with fail
          go_at_call 62
          refine hS.mono ?_
          rintro e w2 ⟨rfl, ⟨vl2, hB2, hbl2⟩, hK2⟩
          have HB2 := Lib.hid hB2
          clear hB2 hS
          go_wp2_with fail
          go_ret
          rw [HRE.out]
          exact ⟨rfl, ⟨vl2, HB2.out, fun b hb => (hbl2 b hb).imp id (fun h => Nat.le_trans hBsz h)⟩, (BKept.of Bk vs vl hbel).trans hK2 (fun b h => Or.inl h)⟩
    · have hfin : (∀ j, j < 3 → (numL (ps.getD (j + 1) [])).isSome = true) → recE x.data.toList s = (addErr (pv ps 0) (pv ps 1) (pv ps 2) s.2.length, bAdd s (pv ps 0) (pv ps 1) (pv ps 2)) := fun h => by
        obtain ⟨n0, e0⟩ := Option.isSome_iff_exists.1 (h 0 (by omega))
        obtain ⟨n1, e1⟩ := Option.isSome_iff_exists.1 (h 1 (by omega))
        obtain ⟨n2, e2⟩ := Option.isSome_iff_exists.1 (h 2 (by omega))
        have v0 : pv ps 0 = n0 := by unfold pv; rw [e0]; rfl
        have v1 : pv ps 1 = n1 := by unfold pv; rw [e1]; rfl
        have v2 : pv ps 2 = n2 := by unfold pv; rw [e2]; rfl
        rw [v0, v1, v2]
        exact recE_add (HPS0.out.symm.trans HFO.out) (HP0.out.symm.trans hpw) e0 e1 e2
      have hbad : (∃ j, j < 3 ∧ numL (ps.getD (j + 1) []) = none) → recE x.data.toList s = (2, s) := fun ⟨j, hj, e⟩ => by
        refine recE_num (HPS0.out.symm.trans HFO.out) ?_
        have : j = 0 ∨ j = 1 ∨ j = 2 := by omega
        rcases this with rfl | rfl | rfl
        · exact Or.inl e
        · exact Or.inr (Or.inl e)
        · exact Or.inr (Or.inr e)
      have HFIN := Lib.hid hfin
      have HBAD := Lib.hid hbad
      clear hpw hfin hbad
      go_enter Tryz.func119, Tryz.ntmps119
      go_wp2_with fail
      go_at_call 16
      refine HSP.out.mono ?_
      rintro e w1 ⟨rfl, hw1e⟩
      have hc1 : w1.cell? ⟨w.heap.size, 0, none⟩ = some (.string (ba p0)) := by rw [hw1e]; exact hq0
      have hbw1 : Below w.heap.size w w1 := by rw [hw1e]; exact hw1
      have hh1 : w1.heap[w.heap.size]? = some (piecesO ps) := by rw [hw1e]; exact heap_alloc_new _ _
      have hsz1 : w1.heap.size = w.heap.size + 1 := by rw [hw1e]; simp
      clear hw1e hq0 hw1
      go_wp2_with fail
      go_loopg [32] 4 (fun g i wr => ∃ k : Nat, k ≤ 3 ∧ 3 - k < g ∧ i = .int .i64 k ∧ (∀ j, j < k → (numL (ps.getD (j + 1) [])).isSome = true) ∧ wr.heap[w.heap.size]? = some (piecesO ps) ∧ wr.heap[w.heap.size + 1]? = some (.cells (arrTo (pv ps) k) 168 (0, 0)) ∧ Below w.heap.size w wr)
      case atStart =>
        refine ⟨0, by omega, by omega, rfl, fun j hj => by omega, ?_, ?_, hbw1.alloc (by omega) _⟩
        · rw [heap_alloc_old _ _ (by omega)]; exact hh1
        · rw [← hsz1]; exact heap_alloc_new _ _
      case round =>
        clear hc1 hbw1 hh1 hsz1
        obtain ⟨k, hk, hg, rfl, hsome, hP, hA, hbel⟩ := hrel
        have q0 := HC.out wr hP 0 (by omega)
        rw [← HP0.out] at q0
        have hBsz := hbel.size
        have l1 : w.heap.size + 1 < wr.heap.size := (Array.getElem?_eq_some_iff.1 hA).1
        by_cases hlt : k < 3
        · have q1 := HC.out wr hP (k + 1) (by omega)
          have hk0 : (0 : Int) ≤ k := by omega
          have hk3 : (k : Int) < 3 := by omega
          have hN := Number_any (ba (ps.getD (k + 1) [])) B wr (HG.out.call (hbel.mono hBw)) (Nat.le_trans hBw hBsz) (HPS.out _)
          rw [ba_toList] at hN
          have hpv : pv ps k = ((numL (ps.getD (k + 1) [])).getD 0 : Nat) := rfl
          have HST := Lib.hid (arrTo_step (pv ps) hlt)
          generalize hpc : ps.getD (k + 1) [] = pc at q1 hN hpv
          have HPC := Lib.hid hpc
          rw [Nat.add_comm k 1] at q1
          have HA := Lib.hid hA
          have HP := Lib.hid hP
          have HSM := Lib.hid hsome
          have HPV := Lib.hid hpv
          clear hA hP hsome hpv hpc
          go_wp2_with fail
          go_at_call 118
          refine hN.mono ?_
          rintro e w2 ⟨⟨v, rfl, hv⟩, hb2⟩
          have hA2 : w2.heap[w.heap.size + 1]? = some (.cells (arrTo (pv ps) k) 168 (0, 0)) := by rw [hb2.block _ l1]; exact HA.out
          have hP2 : w2.heap[w.heap.size]? = some (piecesO ps) := by rw [hb2.block _ (by omega)]; exact HP.out
          have hbel2 := below_trans hbel hb2
          cases hn : numL pc with
          | none =>
            have hre := HBAD.out ⟨k, hlt, by rw [HPC.out]; exact hn⟩
            have HRE := Lib.hid hre
            clear hn hre hv hA2 hP2 HFIN HBAD HST HSM HPV HPC
            go_wp2_with fail
            go_ret
            rw [HRE.out]
            exact ⟨rfl, HKE.out _ hbel2⟩
          | some m =>
            obtain rfl := hv m hn
            have hpvm : pv ps k = (m : Int) := by rw [HPV.out, hn]; rfl
            have HN := Lib.hid hn
            obtain ⟨⟨u, hu⟩, hfz⟩ := arr_cell hA2 hlt
            have hst := arr_store hA2 hlt
            have hP3 : (w2.setCell ⟨w.heap.size + 1, k, none⟩ (.int .i64 m)).heap[w.heap.size]? = some (piecesO ps) := by
              rw [heap_setCell_other _ _ _ _ (by simp)]; exact hP2
            have hbel3 := hbel2.setCell (p := ⟨w.heap.size + 1, k, none⟩) (show w.heap.size ≤ w.heap.size + 1 by omega) (.int .i64 m)
            rw [hpvm] at hst
            have HST2 := Lib.hid hst
            have HP3 := Lib.hid hP3
            clear hv hn hst hP3 hpvm
            go_wp2_with fail
            go_roundg (3 - k)
            case measure => omega
            case rel =>
              refine ⟨k + 1, by omega, by omega, by go_num, fun j hj => ?_, HP3.out, HST2.out, hbel3⟩
              by_cases hjk : j < k
              · exact HSM.out j hjk
              · obtain rfl : j = k := by omega
                rw [HPC.out, HN.out]; rfl
        · obtain rfl : k = 3 := by omega
          have hre := HFIN.out hsome
          have a0 : wr.cell? ⟨w.heap.size + 1, 0, none⟩ = some (.int .i64 (pv ps 0)) := by simp [World.cell?, hA, arrTo]
          have a1 : wr.cell? ⟨w.heap.size + 1, 1, none⟩ = some (.int .i64 (pv ps 1)) := by simp [World.cell?, hA, arrTo]
          have a2 : wr.cell? ⟨w.heap.size + 1, 2, none⟩ = some (.int .i64 (pv ps 2)) := by simp [World.cell?, hA, arrTo]
          have hS := Add_any wr B Bk G vs vl s (HB.out.call hbel) (Nat.le_trans hBw hBsz) ((HG.out.call (hbel.mono hBw)).1) (pv ps 0) (pv ps 1) (pv ps 2)
          have HRE := Lib.hid hre
          clear hre HFIN HBAD hsome hP hA
          go_wp2_with fail
          go_at_call 63
          refine hS.mono ?_
          rintro e w2 ⟨rfl, ⟨vl2, hB2, hbl2⟩, hK2⟩
          have HB2 := Lib.hid hB2
          clear hB2 hS
          go_wp2_with fail
          go_ret
          rw [HRE.out]
          exact ⟨rfl, ⟨vl2, HB2.out, fun b hb => (hbl2 b hb).imp id (fun h => Nat.le_trans hBsz h)⟩, (BKept.of Bk vs vl hbel).trans hK2 (fun b h => Or.inl h)⟩
    · have hre : recE x.data.toList s = (2, s) := recE_word (HPS0.out.symm.trans HFO.out) (by rw [← HP0.out]; exact hpw) (by rw [← HP0.out]; exact hpw2)
      rw [hre]
      clear hre hpw hpw2
      go_enter Tryz.func119, Tryz.ntmps119
      go_wp2_with fail
      go_at_call 16
      refine HSP.out.mono ?_
      rintro e w1 ⟨rfl, hw1e⟩
      have hc1 : w1.cell? ⟨w.heap.size, 0, none⟩ = some (.string (ba p0)) := by rw [hw1e]; exact hq0
      have hbw1 : Below w.heap.size w w1 := by rw [hw1e]; exact hw1
      clear hw1e hq0 hw1
      go_wp2_with fail
      go_ret
      exact ⟨rfl, HKE.out _ hbw1⟩
  · have hre : recE x.data.toList s = (2, s) := recE_len (by rw [← hps]; exact h4)
    rw [hre]
    have h4b : (((ps.length : Nat) : Int) != 4) = true := by simp; omega
    clear hre hB hG hkeep hps h4
    go_enter Tryz.func119, Tryz.ntmps119
    go_wp2_with fail
    go_at_call 16
    refine HSP.out.mono ?_
    rintro e w1 ⟨rfl, hw1e⟩
    have hbw1 : Below w.heap.size w w1 := by rw [hw1e]; exact hw1
    clear hw1e hw1
    go_wp2_with fail
    go_ret
    exact ⟨rfl, HKE.out _ hbw1⟩
end Go.Proofs.YtokneabcgmjhdaaGreatDoor
