/- Contract of the reference's Line. -/
import Derived.Test.YtokneabcgmjhdaaGreatDoorRefAny
import Derived.Test.YtokneabcgmjhdaaGreatDoorRefCut
import Derived.Test.YtokneabcgmjhdaaGreatDoorOpLine
import Derived.Test.YtokneabcgmjhdaaGreatDoorQuietAny
namespace Go.Proofs.YtokneabcgmjhdaaGreatDoor
open Go.RowKit
set_option linter.unusedVariables false
set_option linter.unusedSimpArgs false

theorem recE_bad {x : List UInt8} {s : BS} {j : Nat} (h0 : 1 ≤ j) (h1 : j < (cutL 32 x).length) (h : numL ((cutL 32 x).getD j []) = none) : recE x s = (2, s) := by
  by_cases h4 : (cutL 32 x).length = 4
  · have hf := four_of h4
    refine recE_num hf ?_
    have : j = 1 ∨ j = 2 ∨ j = 3 := by omega
    rcases this with rfl | rfl | rfl
    · exact Or.inl h
    · exact Or.inr (Or.inl h)
    · exact Or.inr (Or.inr h)
  · exact recE_len h4
theorem drop_succ_mem {l : List UInt8} {k : Nat} (h : k < l.length) {b : UInt8} (hb : l.getD k 0 ≠ b) (h2 : b ∉ l.drop (k + 1)) : b ∉ l.drop k := by
  rw [List.drop_eq_getElem_cons h]
  intro hm
  rcases List.mem_cons.1 hm with he | hm
  · rw [List.getD_eq_getElem?_getD, List.getElem?_eq_getElem h] at hb
    exact hb he.symm
  · exact h2 hm
theorem lastCut_at {l : List UInt8} {k : Nat} (h : k < l.length) (hb : l.getD k 0 = 32) (h2 : (32 : UInt8) ∉ l.drop (k + 1)) : lastCut l = some (l.take k, l.drop (k + 1)) := by
  have e : l = l.take k ++ 32 :: l.drop (k + 1) := by
    have h3 : l.drop k = 32 :: l.drop (k + 1) := by
      rw [List.drop_eq_getElem_cons h]
      rw [List.getD_eq_getElem?_getD, List.getElem?_eq_getElem h] at hb
      simp at hb
      rw [hb]
    rw [← h3, List.take_append_drop]
  conv => lhs; rw [e]
  exact lastCut_app h2 _
theorem own_shape {w : World} {B : Nat} {e : TypeId} {v : Value} {n : Nat} {xs : List Value} (h : w.ownsRow B e 1 v n xs) (hn : 0 < n) : ∃ g cap, v = .slice (some ⟨g, 0, none⟩) n cap ∧ n ≤ cap ∧ g < w.heap.size ∧ ∀ i u, xs[i]? = some u → w.cell? ⟨g, i, none⟩ = some u := by
  rcases h.2 with ⟨rfl, h0⟩ | ⟨g, cap, cur, rfl, hg, hb, h1, h2⟩
  · omega
  · refine ⟨g, cap, rfl, h1, (Array.getElem?_eq_some_iff.1 hb).1, fun i u hu => ?_⟩
    have hh : w.ownsRow B e 1 (.slice (some ⟨g, 0, none⟩) n cap) n xs := h
    have hi : i < n := by
      have h3 := h.1
      have := (List.getElem?_eq_some_iff.1 hu).1
      omega
    rw [hh.cellAt i (by omega)]
    exact hu
/-- the values of the pieces from the second on -/
def pvs (ps : List (List UInt8)) (k : Nat) : List Int := (List.range k).map (pv ps)
theorem pvs_snoc (ps : List (List UInt8)) (k : Nat) : pvs ps (k + 1) = pvs ps k ++ [pv ps k] := by
  unfold pvs
  rw [List.range_succ, List.map_append, List.map_singleton]
theorem pvs_len (ps : List (List UInt8)) (k : Nat) : (pvs ps k).length = k := by simp [pvs]

set_option maxRecDepth 100000 in
set_option maxHeartbeats 4000000 in
theorem RLine_any (x : ByteArray) (w : World) (B : Nat) (v : Value) (s : BS) (hok : BSok s) (h : RefIs w B v s) (hB : B ≤ w.heap.size) (hx : x.size ≤ 3000) :
    Calls Tryz.prog 56 #[v, .string x] w fun e w' => (∃ v', e = .returned (.tuple #[v', .int .i64 (lineE x.data.toList s).1]) ∧ RefIs w' B v' (lineE x.data.toList s).2) ∧ Below w.heap.size w w' := by
  obtain ⟨ii, hi, hz0, hz1, hz2⟩ := info_parts info_int
  have HREF := Lib.hid (fun W (hW : Below w.heap.size w W) => h.call hW)
  obtain ⟨a, cap, rfl, hc4, -⟩ := h
  have HOK := Lib.hid hok
  obtain ⟨l, hl⟩ : ∃ l, l = x.data.toList := ⟨_, rfl⟩
  have HL := Lib.hid hl
  have hll : l.length = x.size := by rw [hl, size_list]
  have HLL := Lib.hid hll
  rw [← hl]
  have HW0 := Lib.hid (show Below w.heap.size w ((w.alloc (.cells #[.slice a 4 cap, .string (textOf s.2), .int .i64 (s.2.length : Nat)] 48)).alloc (boxO (.slice none 0 0))) from ((Below.refl _ _).alloc (Nat.le_refl _) _).alloc (by simp) _)
  have HBX := Lib.hid (fun W (hW : Below (w.heap.size + 1 + 1) ((w.alloc (.cells #[.slice a 4 cap, .string (textOf s.2), .int .i64 (s.2.length : Nat)] 48)).alloc (boxO (.slice none 0 0))) W) => (show
      W.cell? ⟨w.heap.size, 0, none⟩ = some (.slice a 4 cap) ∧ W.cell? ⟨w.heap.size, 1, none⟩ = some (.string (textOf s.2)) ∧ W.cell? ⟨w.heap.size, 2, none⟩ = some (.int .i64 (s.2.length : Nat)) ∧
      W.cell? ⟨w.heap.size + 1, 0, none⟩ = some (.slice none 0 0) ∧ W.cell? ⟨w.heap.size + 1, 1, none⟩ = some (.string ⟨#[]⟩) ∧ W.cell? ⟨w.heap.size + 1, 2, none⟩ = some (.int .i64 0) ∧
      W.frozen? ⟨w.heap.size + 1, 0, none⟩ = false ∧ W.frozen? ⟨w.heap.size + 1, 1, none⟩ = false ∧ W.frozen? ⟨w.heap.size + 1, 2, none⟩ = false ∧ W.heap[w.heap.size + 1]? = some (boxO (.slice none 0 0)) from by
    have hlt0 : w.heap.size < (w.alloc (.cells #[.slice a 4 cap, .string (textOf s.2), .int .i64 (s.2.length : Nat)] 48)).heap.size := by simp
    have hbx : W.heap[w.heap.size]? = some (.cells #[.slice a 4 cap, .string (textOf s.2), .int .i64 (s.2.length : Nat)] 48 (0, 0)) := by
      rw [hW.block _ (by omega), heap_alloc_old _ _ hlt0]; exact heap_alloc_new _ _
    have hby : W.heap[w.heap.size + 1]? = some (boxO (.slice none 0 0)) := by
      rw [hW.block _ (by omega)]; exact heap_alloc2_new _ _ _
    exact ⟨by simp [World.cell?, hbx], by simp [World.cell?, hbx], by simp [World.cell?, hbx], by simp [World.cell?, hby], by simp [World.cell?, hby], by simp [World.cell?, hby], by simp [World.frozen?, hby], by simp [World.frozen?, hby], by simp [World.frozen?, hby], hby⟩))
  clear hl hll hok
  go_enter Tryz.func56, Tryz.ntmps56
  go_wp2_with fail
  obtain ⟨W0, hW0⟩ : ∃ W0, W0 = (w.alloc (.cells #[.slice a 4 cap, .string (textOf s.2), .int .i64 (s.2.length : Nat)] 48)).alloc (boxO (.slice none 0 0)) := ⟨_, rfl⟩
  rw [← hW0] at HW0 HBX
  have hs0 : W0.heap.size = w.heap.size + 1 + 1 := by rw [hW0]; simp
  rw [← hW0]
  clear hW0
  go_loopg [6] (x.size + 1) (fun g i wr => ∃ (k : Nat) (y : Int), k ≤ x.size ∧ k < g ∧ i = .int .i64 y ∧ y = (k : Int) - 1 ∧ (32 : UInt8) ∉ l.drop k ∧ wr = W0)
  case atStart => exact ⟨x.size, _, by omega, by omega, rfl, rfl, by rw [List.drop_eq_nil_of_le (by rw [HLL.out]; exact Nat.le_refl _)]; simp, rfl⟩
  case round =>
    obtain ⟨k, y, hk, hg, rfl, hy, hnot, rfl⟩ := hrel
    obtain ⟨Wz, rfl⟩ : ∃ Wz : World, Wz = wr := ⟨_, rfl⟩
    by_cases hk0 : k = 0
    · subst hk0
      obtain rfl : y = -1 := by omega
      have HRE := Lib.hid (lineE_none (s := s) (lastCut_none.2 (by rw [List.drop_zero] at hnot; exact hnot)))
      have hW := Below.refl (w.heap.size + 1 + 1) Wz
      obtain ⟨p0, p1, p2, s0, s1, s2, t0, t1, t2, hby⟩ := HBX.out _ hW
      have hbW := HW0.out.trans (hW.mono (by omega))
      clear hnot hy
      go_wp2_with fail
      (try simp only [Exit.inBlock, Exit.then])
      refine bodyPost_ret (results_cell_row_tmp rfl _ _ (w.heap.size + 1) 48 #[.slice a 4 cap, .string (textOf s.2), .int .i64 (s.2.length : Nat)] (0, 0) _ rfl (box_store3 hby) Tryz.underlying48 rfl (by kernel_rfl)) rfl ?_
      rw [HRE.out]
      exact ⟨⟨_, rfl, HREF.out _ (box_below3 hbW (by omega))⟩, box_below3 hbW (by omega)⟩
    · obtain ⟨m, rfl⟩ : ∃ m, k = m + 1 := ⟨k - 1, by omega⟩
      obtain rfl : y = (m : Int) := by omega
      have hm : m < x.size := by omega
      have hm0 : (0 : Int) ≤ m := by omega
      have hmi : (m : Int) < x.size := by omega
      have hbk := byte_at (l := l) HL.out rfl hm
      by_cases hb : x[m]'hm = 32
      · have hcut := lastCut_at (l := l) (k := m) (by rw [HLL.out]; exact hm) (by rw [← hbk]; exact hb) hnot
        have hbb : (((x[m]'hm).toNat : Int) != 32) = false := by rw [hb]; rfl
        have hxe := (lastCut_some hcut).1
        have hf := cut_front (s := x) (HL.out.symm.trans hxe)
        have hbk2 := cut_back (s := x) (HL.out.symm.trans hxe)
        have htl : (l.take m).length = m := by rw [List.length_take, HLL.out]; omega
        rw [htl] at hf hbk2
        obtain ⟨xa, hxa⟩ : ∃ xa, xa = l.take m := ⟨_, rfl⟩
        obtain ⟨ya, hya⟩ : ∃ ya, ya = l.drop (m + 1) := ⟨_, rfl⟩
        have hxal : xa.length ≤ 3000 := by rw [hxa, htl]; omega
        have hyal : ya.length ≤ 3000 := by rw [hya, List.length_drop, HLL.out]; omega
        rw [← hxa, ← hya] at hcut
        rw [← hxa] at hf
        rw [← hya] at hbk2
        have HF := Lib.hid hf
        have HBK := Lib.hid hbk2
        have HC := Lib.hid hcut
        have hN := fun W => RNumber_any (ba ya) W (by rw [ba_size]; omega)
        have hCS := fun W => RSum_any (ba xa) W (by rw [ba_size]; omega)
        have hCT := fun W => RCut_any (ba xa) 32 W (by rw [ba_size]; omega)
        rw [ba_toList] at hN hCT
        obtain ⟨ps, hps⟩ : ∃ ps, ps = cutL 32 xa := ⟨_, rfl⟩
        have HPZ := Lib.hid (fun j => (show (ba (ps.getD j [])).size ≤ 100000 from by rw [hps]; have := piece_size (c := 32) (l := xa) j; omega))
        rw [← hps] at hCT
        have HPS := Lib.hid hps
        have HN := Lib.hid hN
        have HCS := Lib.hid hCS
        have HCT := Lib.hid hCT
        clear hcut hxe hf hbk2 htl hxa hya hN hCS hCT hps hbk hnot hy hb
        go_wp2_with fail
        rw [HBK.out]
        go_at_call 31
        refine (HN.out _).mono ?_
        rintro e W1 ⟨⟨v, rfl, hv⟩, hb1⟩
        have hW := hb1.mono (show w.heap.size + 1 + 1 ≤ Wz.heap.size by omega)
        cases hn : numL ya with
        | none =>
          have HRE := Lib.hid (lineE_num (s := s) HC.out hn)
          obtain ⟨p0, p1, p2, s0, s1, s2, t0, t1, t2, hby⟩ := HBX.out _ hW
          have hbW := HW0.out.trans (hW.mono (by omega))
          clear hn hv
          go_wp2_with fail
          (try simp only [Exit.inBlock, Exit.then])
          refine bodyPost_ret (results_cell_row_tmp rfl _ _ (w.heap.size + 1) 48 #[.slice a 4 cap, .string (textOf s.2), .int .i64 (s.2.length : Nat)] (0, 0) _ rfl (box_store3 hby) Tryz.underlying48 rfl (by kernel_rfl)) rfl ?_
          rw [HRE.out]
          exact ⟨⟨_, rfl, HREF.out _ (box_below3 hbW (by omega))⟩, box_below3 hbW (by omega)⟩
        | some n =>
          obtain rfl := hv n hn
          by_cases hs : (n : Int) = sumOf (ba xa)
          · have HRE0 := Lib.hid (lineE_rec (s := s) HC.out hn hs)
            have hsb : ((n : Int) != sumOf (ba xa)) = false := by simp [hs]
            clear hn hv hs
            go_wp2_with fail
            rw [HF.out]
            go_at_call 82
            refine (HCS.out _).mono ?_
            rintro e W2 ⟨rfl, rfl⟩
            go_wp2_with fail
            rw [HF.out]
            go_at_call 30
            refine (HCT.out _).mono ?_
            rintro e W2 ⟨⟨vp, rfl, hop⟩, hb2⟩
            have hpl : 0 < ps.length := List.length_pos_iff.2 (by rw [HPS.out]; exact cutL_ne _ _)
            obtain ⟨pg, pc, rfl, hpc, hpgl, hpcell⟩ := own_shape hop hpl
            have HPC := Lib.hid (fun W (hW2 : Below W2.heap.size W2 W) i (hi : i < ps.length) => (show W.cell? ⟨pg, i, none⟩ = some (.string (ba (ps.getD i []))) from by
              rw [hW2.cell (p := ⟨pg, i, none⟩) hpgl]
              exact hpcell i _ (by simp [strsV, hi, List.getD])))
            have hb2s := hb2.size
            have hb1s := hb1.size
            have hW2 : Below (w.heap.size + 1 + 1) Wz W2 := hW.trans (hb2.mono (by omega))
            have HW2 := Lib.hid hW2
            obtain ⟨n, hn⟩ : ∃ n, ps.length = n + 1 := ⟨ps.length - 1, by omega⟩
            have hn3 : n ≤ 3000 := by
              have h1 := cutL_len 32 xa
              rw [← HPS.out, hn] at h1
              have h2 := List.count_le_length (a := (32 : UInt8)) (l := xa)
              omega
            have HNN := Lib.hid hn
            rw [hn]
            clear hop hpcell hpgl hW hW2 hpl hn hb1 hb2
            go_wp2_with fail
            go_loopg [10, 11] (n + 1) (fun g lv iv wq => ∃ t : Nat, t ≤ n ∧ n - t < g ∧ iv = .int .i64 ((t : Int) + 1) ∧ OwnInts wq W2.heap.size lv (pvs ps t) ∧ (∀ j, j < t → (numL (ps.getD (j + 1) [])).isSome = true) ∧ Below W2.heap.size W2 wq)
            case atStart => exact ⟨0, by omega, by omega, rfl, World.ownsRow_nil _ _ _ _, fun j hj => by omega, Below.refl _ _⟩
            case round =>
              obtain ⟨t, ht, hg2, rfl, hown, hsome, hbel⟩ := hrel
              obtain ⟨wq, rfl⟩ : ∃ wq : World, wq = wr := ⟨_, rfl⟩
              have hW : Below (w.heap.size + 1 + 1) Wz wq := HW2.out.trans (hbel.mono (by omega))
              have hbels := hbel.size
              obtain ⟨la, ln, lc, rfl⟩ := OwnInts.isSlice hown
              by_cases htn : t < n
              · have q1 := HPC.out wq hbel (t + 1) (by rw [HNN.out]; omega)
                have hti : ((t : Int) + 1) < (n : Int) + 1 := by omega
                have ht0 : (0 : Int) ≤ (t : Int) + 1 := by omega
                have hNU := RNumber_any (ba (ps.getD (t + 1) [])) wq (HPZ.out _)
                rw [ba_toList] at hNU
                have hpv : pv ps t = ((numL (ps.getD (t + 1) [])).getD 0 : Nat) := rfl
                have hbadr := fun (h : numL (ps.getD (t + 1) []) = none) => recE_bad (x := xa) (s := s) (j := t + 1) (by omega) (by rw [← HPS.out, HNN.out]; omega) (by rw [← HPS.out]; exact h)
                generalize hpc2 : ps.getD (t + 1) [] = pcz at q1 hNU hpv hbadr
                have HPC2 := Lib.hid hpc2
                have HBR := Lib.hid hbadr
                have HOW := Lib.hid hown
                have HSM := Lib.hid hsome
                have HPV := Lib.hid hpv
                clear hpc2 hbadr hown hsome hpv
                go_wp2_with fail
                go_at_call 31
                refine hNU.mono ?_
                rintro e W3 ⟨⟨v, rfl, hv⟩, hb3⟩
                have hW3 := hW.trans (hb3.mono (by omega))
                cases hn : numL pcz with
                | none =>
                  have HRE := Lib.hid (HRE0.out.trans (HBR.out hn))
                  clear hW
                  have hW := hW3
                  obtain ⟨p0, p1, p2, s0, s1, s2, t0, t1, t2, hby⟩ := HBX.out _ hW
                  have hbW := HW0.out.trans (hW.mono (by omega))
                  clear hn hv
                  go_wp2_with fail
                  (try simp only [Exit.inBlock, Exit.then])
                  refine bodyPost_ret (results_cell_row_tmp rfl _ _ (w.heap.size + 1) 48 #[.slice a 4 cap, .string (textOf s.2), .int .i64 (s.2.length : Nat)] (0, 0) _ rfl (box_store3 hby) Tryz.underlying48 rfl (by kernel_rfl)) rfl ?_
                  rw [HRE.out]
                  exact ⟨⟨_, rfl, HREF.out _ (box_below3 hbW (by omega))⟩, box_below3 hbW (by omega)⟩
                | some z =>
                  obtain rfl := hv z hn
                  have hpvz : pv ps t = (z : Int) := by rw [HPV.out, hn]; rfl
                  have HSZ := Lib.hid (show (numL pcz).isSome = true from by rw [hn]; rfl)
                  have HPZV := Lib.hid hpvz
                  have HOW3 := Lib.hid (HOW.out.call hb3)
                  have hb3s := hb3.size
                  clear hn hv hpvz
                  go_wp2_with (at_builtin; refine wpList_append_own1 (o := ⟨some 72, _, _, _, _, _⟩) rfl _ _ 62 rfl W2.heap.size 3 ii (.int .i64 0) 8 Tryz.underlying62 hi hz0 hz1 hz2 rfl _ (pvs ps t).length ((pvs ps t).map (Value.int .i64)) rfl (World.ownsRow.alloc HOW3.out _) (some ⟨W3.heap.size, 0, none⟩) 1 1 [.int .i64 z] rfl rfl (fun h => by cases h) (one_new _ _ _) (one_int _ _) (by rw [pvs_len]; unfold maxLen; omega) (by rw [pvs_len]; omega) (le_alloc (Nat.le_trans hbels hb3s) _) ?_; intro v4 w4 hown4 hgrow4)
                  have hs4 := OwnInts.snoc rfl hown4
                  rw [← HPZV.out, ← pvs_snoc] at hs4
                  have hb4 := own_grow (below_trans hbel hb3) HOW3.out hgrow4
                  go_roundg (n - t)
                  case measure => omega
                  case rel =>
                    refine ⟨t + 1, by omega, by omega, by go_num, hs4, fun j hj => ?_, hb4⟩
                    by_cases hjt : j < t
                    · exact HSM.out j hjt
                    · obtain rfl : j = t := by omega
                      rw [HPC2.out]; exact HSZ.out
              · obtain rfl : n = t := by omega
                have q0 := HPC.out wq hbel 0 (by rw [HNN.out]; omega)
                obtain ⟨pz0, hpz0⟩ : ∃ p, p = ps.getD 0 [] := ⟨_, rfl⟩
                rw [← hpz0] at q0
                have hln : ln = n := by
                  obtain ⟨a', cap', e, -⟩ := OwnInts.shape hown
                  simp only [Value.slice.injEq] at e
                  rw [e.2.1, pvs_len]
                subst hln
                by_cases h4 : ln = 3
                · subst h4
                  have hfour := four_of (ps := ps) HNN.out
                  have hwd : ((pz0 == [115]) = true ∧ pz0 = [115]) ∨ ((pz0 == [115]) = false ∧ (pz0 == [97]) = true ∧ pz0 = [97]) ∨ ((pz0 == [115]) = false ∧ (pz0 == [97]) = false ∧ pz0 ≠ [115] ∧ pz0 ≠ [97]) := by
                    by_cases h1 : pz0 = [115]
                    · exact Or.inl ⟨by simp [h1], h1⟩
                    · by_cases h2 : pz0 = [97]
                      · exact Or.inr (Or.inl ⟨by simp [h1], by simp [h2], h2⟩)
                      · exact Or.inr (Or.inr ⟨by simp [h1], by simp [h2], h1, h2⟩)
                  have hsh := hown.shape
                  obtain ⟨a', cap', e, hle1, hle2, -, hia⟩ := hsh
                  simp only [Value.slice.injEq] at e
                  obtain ⟨rfl, -, rfl⟩ := e
                  rw [pvs_len] at hia
                  obtain ⟨gl, gof, rfl, y0⟩ := hia.2 0 (by omega)
                  obtain ⟨gl', gof', q1, y1⟩ := hia.2 1 (by omega)
                  cases q1
                  obtain ⟨gl', gof', q1, y2⟩ := hia.2 2 (by omega)
                  cases q1
                  rw [Nat.add_zero] at y0
                  have zl : gl < wq.heap.size := World.block_lt_of_cell? _ _ y0
                  have zpg : pg < wq.heap.size := World.block_lt_of_cell? _ _ q0
                  change _ = some (Value.int .i64 (pv ps 0)) at y0
                  change _ = some (Value.int .i64 (pv ps 1)) at y1
                  change _ = some (Value.int .i64 (pv ps 2)) at y2
                  rcases hwd with ⟨hw1, hpw⟩ | ⟨hw1, hw2, hpw⟩ | ⟨hw1, hw2, hpw, hpw2⟩
                  ·
                    have hrec : recE xa s = (setErr (pv ps 0) (pv ps 1) (pv ps 2) s.2.length, bSet s (pv ps 0) (pv ps 1) (pv ps 2)) := by
                      obtain ⟨n0, e0⟩ := Option.isSome_iff_exists.1 (hsome 0 (by omega))
                      obtain ⟨n1, e1⟩ := Option.isSome_iff_exists.1 (hsome 1 (by omega))
                      obtain ⟨n2, e2⟩ := Option.isSome_iff_exists.1 (hsome 2 (by omega))
                      have v0 : pv ps 0 = n0 := by unfold pv; rw [e0]; rfl
                      have v1 : pv ps 1 = n1 := by unfold pv; rw [e1]; rfl
                      have v2 : pv ps 2 = n2 := by unfold pv; rw [e2]; rfl
                      rw [v0, v1, v2]
                      exact recE_set (HPS.out.symm.trans hfour) (hpz0.symm.trans hpw) e0 e1 e2
                    have HRE := Lib.hid (HRE0.out.trans hrec)
                    have hbW0 := HW0.out.trans (hW.mono (by omega))
                    have hS := fun W (hq : Below wq.heap.size wq W) => RSet_any W B (by have := hbW0.size; have := hq.size; omega) _ s HOK.out (HREF.out W (hbW0.trans (hq.mono (by have := hbW0.size; omega)))) (pv ps 0) (pv ps 1) (pv ps 2)
                    have HS := Lib.hid hS
                    obtain ⟨p0, p1, p2, s0, s1, s2, t0, t1, t2, hby⟩ := HBX.out _ hW
                    have hbW := HW0.out.trans (hW.mono (by omega))
                    clear hrec hfour hpw hpz0 hown hsome hia hbW0 hS
                    generalize pv ps 0 = y0v at *
                    generalize pv ps 1 = y1v at *
                    generalize pv ps 2 = y2v at *
                    obtain ⟨sn, hsn⟩ : ∃ sn, sn = bSet s y0v y1v y2v := ⟨_, rfl⟩
                    rw [← hsn] at HS HRE
                    clear hsn
                    have zb : w.heap.size < wq.heap.size := by have := hW.size; omega
                    have zb1 : w.heap.size + 1 < wq.heap.size := by have := hW.size; omega
                    go_upto_region 21 with (fail)
                    refine wp_region_quiet_any (C := Cls wq.heap.size wq) 10 (by kernel_rfl) (by kernel_rfl) Cls.start ?_
                    simp only [List.take_succ_cons, List.take_zero]
                    repeat
                      (refine wpQuiet_step (fun K hK => ?_)
                       go_simp
                       first
                         | (refine hK _ ?_; clear hK K)
                         | (apply Exists.intro
                            refine ⟨fun w' hC => ?_, hK _ ?_⟩
                            · (obtain ⟨hr, hr2⟩ := hC.rules
                               first
                                 | (fail)
                                 | (go_simp; done)
                                 | (go_simp; rfl))
                            clear hK K))
                    refine wpQuiet_nil ?_
                    intro W5 hW5
                    show wpAny _ _ _ _ (4 + 1) _ _ _
                    refine wpAny_ready (fuel := 4) (rs := [10]) (by kernel_rfl) (by simp) ?_
                    refine AllReady.cons rfl (fun K hK => ?_) AllReady.nil
                    go_simp
                    refine (HS.out _ hW5).mono ?_
                    rintro e w6 ⟨⟨v6, rfl, hR6⟩, hb6⟩
                    obtain ⟨ra6, rc6, rfl, hrc6, hro6⟩ := hR6
                    have hby6 : w6.heap[w.heap.size + 1]? = some (boxO (.slice none 0 0)) := by
                      rw [hb6.block _ (Nat.lt_of_lt_of_le zb1 hW5.size), hW5.block _ zb1]; exact hby
                    have u0 : w6.cell? ⟨w.heap.size + 1, 0, none⟩ = some (.slice none 0 0) := by simp [World.cell?, hby6]
                    have u1 : w6.cell? ⟨w.heap.size + 1, 1, none⟩ = some (.string ⟨#[]⟩) := by simp [World.cell?, hby6]
                    have u2 : w6.cell? ⟨w.heap.size + 1, 2, none⟩ = some (.int .i64 0) := by simp [World.cell?, hby6]
                    have f0 : w6.frozen? ⟨w.heap.size + 1, 0, none⟩ = false := by simp [World.frozen?, hby6]
                    have f1 : w6.frozen? ⟨w.heap.size + 1, 1, none⟩ = false := by simp [World.frozen?, hby6]
                    have f2 : w6.frozen? ⟨w.heap.size + 1, 2, none⟩ = false := by simp [World.frozen?, hby6]
                    have hbW6 : Below w.heap.size w w6 := (hbW.trans (hW5.mono (by omega))).trans (hb6.mono (by have := hW5.size; omega))
                    have hR6 : RefIs w6 B (refV ra6 rc6 (textOf sn.2) sn.2.length) sn := ⟨ra6, rc6, rfl, hrc6, hro6⟩
                    go_simp
                    refine hK _ _ ?_; clear hK K
                    refine wpAny_take (fuel := 3) (i := 11) (v := ?_) rfl (by kernel_rfl) (by kernel_rfl) (by kernel_rfl) (fun _ _ _ h => h) (Or.inl ⟨by rfl, ?_⟩) ?_
                    rotate_left
                    (intro w; go_simp; try rfl)
                    refine wpAny_take (fuel := 2) (i := 12) (v := ?_) rfl (by kernel_rfl) (by kernel_rfl) (by kernel_rfl) (fun _ _ _ h => h) (Or.inl ⟨by rfl, ?_⟩) ?_
                    rotate_left
                    (intro w; go_simp; try rfl)
                    refine wpAny_ready (fuel := 1) (rs := [13]) (by kernel_rfl) (by simp) ?_
                    refine AllReady.cons rfl (fun K hK => ?_) AllReady.nil
                    go_simp
                    refine hK _ _ ?_; clear hK K
                    refine wpAny_take (fuel := 0) (i := 14) (v := ?_) rfl (by kernel_rfl) (by kernel_rfl) (by kernel_rfl) (fun _ _ _ h => h) (Or.inl ⟨by rfl, ?_⟩) ?_
                    rotate_left
                    (intro w; go_simp; try rfl)
                    refine wpAny_done (by kernel_rfl) ?_ _
                    go_wp2_with fail
                    (try simp only [Exit.inBlock, Exit.then])
                    refine bodyPost_ret (results_cell_row_tmp rfl _ _ (w.heap.size + 1) 48 #[.slice ra6 4 rc6, .string (textOf sn.2), .int .i64 (sn.2.length : Nat)] (0, 0) _ rfl (box_store3 hby6) Tryz.underlying48 rfl (by kernel_rfl)) rfl ?_
                    rw [HRE.out]
                    exact ⟨⟨_, rfl, hR6.other hby6 (put3_grown w6 (w.heap.size + 1) _ _ _)⟩, box_below3 hbW6 (by omega)⟩
                  ·
                    have hrec : recE xa s = (addErr (pv ps 0) (pv ps 1) (pv ps 2) s.2.length, bAdd s (pv ps 0) (pv ps 1) (pv ps 2)) := by
                      obtain ⟨n0, e0⟩ := Option.isSome_iff_exists.1 (hsome 0 (by omega))
                      obtain ⟨n1, e1⟩ := Option.isSome_iff_exists.1 (hsome 1 (by omega))
                      obtain ⟨n2, e2⟩ := Option.isSome_iff_exists.1 (hsome 2 (by omega))
                      have v0 : pv ps 0 = n0 := by unfold pv; rw [e0]; rfl
                      have v1 : pv ps 1 = n1 := by unfold pv; rw [e1]; rfl
                      have v2 : pv ps 2 = n2 := by unfold pv; rw [e2]; rfl
                      rw [v0, v1, v2]
                      exact recE_add (HPS.out.symm.trans hfour) (hpz0.symm.trans hpw) e0 e1 e2
                    have HRE := Lib.hid (HRE0.out.trans hrec)
                    have hbW0 := HW0.out.trans (hW.mono (by omega))
                    have hS := fun W (hq : Below wq.heap.size wq W) => RAdd_any W B (by have := hbW0.size; have := hq.size; omega) _ s HOK.out (HREF.out W (hbW0.trans (hq.mono (by have := hbW0.size; omega)))) (pv ps 0) (pv ps 1) (pv ps 2)
                    have HS := Lib.hid hS
                    obtain ⟨p0, p1, p2, s0, s1, s2, t0, t1, t2, hby⟩ := HBX.out _ hW
                    have hbW := HW0.out.trans (hW.mono (by omega))
                    clear hrec hfour hpw hpz0 hown hsome hia hbW0 hS
                    generalize pv ps 0 = y0v at *
                    generalize pv ps 1 = y1v at *
                    generalize pv ps 2 = y2v at *
                    obtain ⟨sn, hsn⟩ : ∃ sn, sn = bAdd s y0v y1v y2v := ⟨_, rfl⟩
                    rw [← hsn] at HS HRE
                    clear hsn
                    have zb : w.heap.size < wq.heap.size := by have := hW.size; omega
                    have zb1 : w.heap.size + 1 < wq.heap.size := by have := hW.size; omega
                    go_upto_region 23 with (fail)
                    refine wp_region_quiet_any (C := Cls wq.heap.size wq) 10 (by kernel_rfl) (by kernel_rfl) Cls.start ?_
                    simp only [List.take_succ_cons, List.take_zero]
                    repeat
                      (refine wpQuiet_step (fun K hK => ?_)
                       go_simp
                       first
                         | (refine hK _ ?_; clear hK K)
                         | (apply Exists.intro
                            refine ⟨fun w' hC => ?_, hK _ ?_⟩
                            · (obtain ⟨hr, hr2⟩ := hC.rules
                               first
                                 | (fail)
                                 | (go_simp; done)
                                 | (go_simp; rfl))
                            clear hK K))
                    refine wpQuiet_nil ?_
                    intro W5 hW5
                    show wpAny _ _ _ _ (4 + 1) _ _ _
                    refine wpAny_ready (fuel := 4) (rs := [10]) (by kernel_rfl) (by simp) ?_
                    refine AllReady.cons rfl (fun K hK => ?_) AllReady.nil
                    go_simp
                    refine (HS.out _ hW5).mono ?_
                    rintro e w6 ⟨⟨v6, rfl, hR6⟩, hb6⟩
                    obtain ⟨ra6, rc6, rfl, hrc6, hro6⟩ := hR6
                    have hby6 : w6.heap[w.heap.size + 1]? = some (boxO (.slice none 0 0)) := by
                      rw [hb6.block _ (Nat.lt_of_lt_of_le zb1 hW5.size), hW5.block _ zb1]; exact hby
                    have u0 : w6.cell? ⟨w.heap.size + 1, 0, none⟩ = some (.slice none 0 0) := by simp [World.cell?, hby6]
                    have u1 : w6.cell? ⟨w.heap.size + 1, 1, none⟩ = some (.string ⟨#[]⟩) := by simp [World.cell?, hby6]
                    have u2 : w6.cell? ⟨w.heap.size + 1, 2, none⟩ = some (.int .i64 0) := by simp [World.cell?, hby6]
                    have f0 : w6.frozen? ⟨w.heap.size + 1, 0, none⟩ = false := by simp [World.frozen?, hby6]
                    have f1 : w6.frozen? ⟨w.heap.size + 1, 1, none⟩ = false := by simp [World.frozen?, hby6]
                    have f2 : w6.frozen? ⟨w.heap.size + 1, 2, none⟩ = false := by simp [World.frozen?, hby6]
                    have hbW6 : Below w.heap.size w w6 := (hbW.trans (hW5.mono (by omega))).trans (hb6.mono (by have := hW5.size; omega))
                    have hR6 : RefIs w6 B (refV ra6 rc6 (textOf sn.2) sn.2.length) sn := ⟨ra6, rc6, rfl, hrc6, hro6⟩
                    go_simp
                    refine hK _ _ ?_; clear hK K
                    refine wpAny_take (fuel := 3) (i := 11) (v := ?_) rfl (by kernel_rfl) (by kernel_rfl) (by kernel_rfl) (fun _ _ _ h => h) (Or.inl ⟨by rfl, ?_⟩) ?_
                    rotate_left
                    (intro w; go_simp; try rfl)
                    refine wpAny_take (fuel := 2) (i := 12) (v := ?_) rfl (by kernel_rfl) (by kernel_rfl) (by kernel_rfl) (fun _ _ _ h => h) (Or.inl ⟨by rfl, ?_⟩) ?_
                    rotate_left
                    (intro w; go_simp; try rfl)
                    refine wpAny_ready (fuel := 1) (rs := [13]) (by kernel_rfl) (by simp) ?_
                    refine AllReady.cons rfl (fun K hK => ?_) AllReady.nil
                    go_simp
                    refine hK _ _ ?_; clear hK K
                    refine wpAny_take (fuel := 0) (i := 14) (v := ?_) rfl (by kernel_rfl) (by kernel_rfl) (by kernel_rfl) (fun _ _ _ h => h) (Or.inl ⟨by rfl, ?_⟩) ?_
                    rotate_left
                    (intro w; go_simp; try rfl)
                    refine wpAny_done (by kernel_rfl) ?_ _
                    go_wp2_with fail
                    (try simp only [Exit.inBlock, Exit.then])
                    refine bodyPost_ret (results_cell_row_tmp rfl _ _ (w.heap.size + 1) 48 #[.slice ra6 4 rc6, .string (textOf sn.2), .int .i64 (sn.2.length : Nat)] (0, 0) _ rfl (box_store3 hby6) Tryz.underlying48 rfl (by kernel_rfl)) rfl ?_
                    rw [HRE.out]
                    exact ⟨⟨_, rfl, hR6.other hby6 (put3_grown w6 (w.heap.size + 1) _ _ _)⟩, box_below3 hbW6 (by omega)⟩
                  · have HRE := Lib.hid (HRE0.out.trans (recE_word (HPS.out.symm.trans hfour) (by rw [← hpz0]; exact hpw) (by rw [← hpz0]; exact hpw2)))
                    obtain ⟨p0, p1, p2, s0, s1, s2, t0, t1, t2, hby⟩ := HBX.out _ hW
                    have hbW := HW0.out.trans (hW.mono (by omega))
                    clear hfour hpw hpw2 hpz0 hown hsome hia
                    go_wp2_with fail
                    (try simp only [Exit.inBlock, Exit.then])
                    refine bodyPost_ret (results_cell_row_tmp rfl _ _ (w.heap.size + 1) 48 #[.slice a 4 cap, .string (textOf s.2), .int .i64 (s.2.length : Nat)] (0, 0) _ rfl (box_store3 hby) Tryz.underlying48 rfl (by kernel_rfl)) rfl ?_
                    rw [HRE.out]
                    exact ⟨⟨_, rfl, HREF.out _ (box_below3 hbW (by omega))⟩, box_below3 hbW (by omega)⟩
                · have hl3 : (((ln : Nat) : Int) == 3) = false := beq_eq_false_iff_ne.2 (by omega)
                  have HRE := Lib.hid (HRE0.out.trans (recE_len (x := xa) (s := s) (by rw [← HPS.out, HNN.out]; omega)))
                  obtain ⟨p0, p1, p2, s0, s1, s2, t0, t1, t2, hby⟩ := HBX.out _ hW
                  have hbW := HW0.out.trans (hW.mono (by omega))
                  clear hpz0 hown hsome h4
                  cases hw1 : (pz0 == [115]) <;> cases hw2 : (pz0 == [97])
                  all_goals
                    go_wp2_with fail
                    (try simp only [Exit.inBlock, Exit.then])
                    refine bodyPost_ret (results_cell_row_tmp rfl _ _ (w.heap.size + 1) 48 #[.slice a 4 cap, .string (textOf s.2), .int .i64 (s.2.length : Nat)] (0, 0) _ rfl (box_store3 hby) Tryz.underlying48 rfl (by kernel_rfl)) rfl ?_
                    rw [HRE.out]
                    exact ⟨⟨_, rfl, HREF.out _ (box_below3 hbW (by omega))⟩, box_below3 hbW (by omega)⟩
          · have HRE := Lib.hid (lineE_sum (s := s) HC.out hn hs)
            have hsb : ((n : Int) != sumOf (ba xa)) = true := by simp [hs]
            obtain ⟨p0, p1, p2, s0, s1, s2, t0, t1, t2, hby⟩ := HBX.out _ hW
            have hbW := HW0.out.trans (hW.mono (by omega))
            clear hn hv hs
            go_wp2_with fail
            rw [HF.out]
            go_at_call 82
            refine (HCS.out _).mono ?_
            rintro e W2 ⟨rfl, rfl⟩
            go_wp2_with fail
            (try simp only [Exit.inBlock, Exit.then])
            refine bodyPost_ret (results_cell_row_tmp rfl _ _ (w.heap.size + 1) 48 #[.slice a 4 cap, .string (textOf s.2), .int .i64 (s.2.length : Nat)] (0, 0) _ rfl (box_store3 hby) Tryz.underlying48 rfl (by kernel_rfl)) rfl ?_
            rw [HRE.out]
            exact ⟨⟨_, rfl, HREF.out _ (box_below3 hbW (by omega))⟩, box_below3 hbW (by omega)⟩
      · have hnot2 := drop_succ_mem (l := l) (k := m) (by rw [HLL.out]; exact hm) (by rw [← hbk]; exact hb) hnot
        have hbb : (((x[m]'hm).toNat : Int) != 32) = true := by
          have : (x[m]'hm).toNat ≠ 32 := fun h => hb (UInt8.toNat_inj.1 h)
          have h2 : ((x[m]'hm).toNat : Int) ≠ 32 := by omega
          simpa using h2
        have HNT := Lib.hid hnot2
        clear hnot2 hb hbk hnot hy
        go_wp2_with fail
        go_roundg (gk - 1)
        case measure => omega
        case rel => exact ⟨m, _, by omega, by omega, rfl, by go_num, HNT.out, rfl⟩
end Go.Proofs.YtokneabcgmjhdaaGreatDoor
