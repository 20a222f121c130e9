/- Contract of num.Cut. -/
import Derived.Test.YtijlhdgagaehaaaDoorMem
import Derived.Test.YtijlhdgagaehaaaDoorDetMath
import Derived.Deep.LoopGhost
namespace Go.Proofs.YtijlhdgagaehaaaDoor
open Go.RowKit
set_option linter.unusedVariables false
set_option linter.unusedSimpArgs false

theorem eraseIdx_parts (row : List Int) (j : Nat) : (row.take j).map (Value.int .i64) ++ (row.drop (j + 1)).map (Value.int .i64) = (row.eraseIdx j).map (Value.int .i64) := by
  rw [← List.map_append, List.eraseIdx_eq_take_drop_succ]

set_option maxRecDepth 100000 in
set_option maxHeartbeats 1000000 in
theorem Cut_any (a : Option Addr) (n cap : Nat) (rows : List (List Int)) (ci cj : Nat) (w : World) (hr : RowsAt w a n rows) (hn : n ≤ 1000000) (hcap : n ≤ cap) (hci : ci ≤ 1000000) (hcj : cj ≤ 1000000) (hw : ∀ k, k < n → cj < (rows.getD k []).length ∧ (rows.getD k []).length ≤ 1000000) :
    Calls Tryd.prog 34 #[.slice a n cap, .int .i64 ci, .int .i64 cj] w fun e w' => (∃ v, e = .returned v ∧ OwnRows w' w.heap.size v (cut rows ci cj)) ∧ Below w.heap.size w w' := by
  obtain ⟨hl, hrow⟩ := hr
  obtain ⟨ii, hi, hz0, hz1, hz2⟩ := info_parts info_int
  obtain ⟨ji, hj, hy0, hy1, hy2⟩ := info_parts info_ints
  obtain ⟨B, hB⟩ : ∃ B, B = w.heap.size := ⟨_, rfl⟩
  rw [← hB]
  have HL := Lib.hid hl
  have HB := Lib.hid hB
  clear hl hB
  go_enter Tryd.func34, Tryd.ntmps34
  go_wp2_with fail
  go_loopg [7, 13] n (fun g v i wr => ∃ k : Nat, k ≤ n ∧ n - k ≤ g ∧ i = .int .i64 k ∧ OwnRows wr B v (cutTo rows ci cj k) ∧ Below B w wr ∧ B ≤ wr.heap.size)
  case atStart => exact ⟨0, by omega, by omega, rfl, by simpa [cutTo] using OwnRows.nil w B, Below.refl _ _, by rw [HB.out]; exact Nat.le_refl _⟩
  case round =>
    obtain ⟨k, hk, hg, rfl, hown, hbel, hsz⟩ := hrel
    by_cases hlt : k < n
    · obtain ⟨b, off, ra, rc, rfl, hc, h1, h2, h2', h3⟩ := hrow k hlt
      have hbB : b < B := by rw [HB.out]; exact World.block_lt_of_cell? _ _ hc
      have hc' : wr.cell? ⟨b, off + k, none⟩ = some (.slice ra (rows.getD k []).length rc) := by rw [hbel.cell (p := ⟨b, off + k, none⟩) hbB]; exact hc
      obtain ⟨hj1, hj2⟩ := hw k hlt
      obtain ⟨b2, off2, rfl, hb2, hcw⟩ := h3.some (show 0 < (rows.getD k []).length by omega)
      have hcells : ∀ i, i < (rows.getD k []).length → wr.cell? ⟨b2, off2 + i, none⟩ = some (.int .i64 ((rows.getD k []).getD i 0)) := fun i hi => by
        rw [hbel.cell (p := ⟨b2, off2 + i, none⟩) (by rw [HB.out]; exact hb2)]; exact hcw i hi
      have hb2r : b2 < wr.heap.size := by rw [HB.out] at hsz; omega
      clear h3 hcw hc hrow hw h2'
      have HKK := Lib.hid (show k < rows.length by rw [HL.out]; exact hlt)
      generalize hrk : rows.getD k [] = row at *
      have HRK := Lib.hid hrk
      clear hrk
      obtain ⟨L, hL⟩ : ∃ L, L = row.length := ⟨_, rfl⟩
      rw [← hL] at h1 hj1 hj2 hc' hcells
      have HLk := Lib.hid hL
      clear hL
      by_cases hki : k = ci
      · have hkb : ((k : Int) == (ci : Int)) = true := by simp; omega
        have HKI := Lib.hid hki
        clear hki
        go_wp2_with fail
        go_roundg (gk - 1)
        case measure => omega
        case rel => exact ⟨k + 1, by omega, by omega, by go_num, by rw [cutTo_hit rows ci cj k HKK.out HKI.out]; exact hown, hbel, hsz⟩
      · have hkb : ((k : Int) == (ci : Int)) = false := by simp; omega
        have HKI := Lib.hid hki
        have A1 : ((row.take cj).map (Value.int .i64)).length = cj := by simp [← HLk.out]; omega
        have A2 : ∀ j u, ((row.take cj).map (Value.int .i64))[j]? = some u → wr.cell? ((⟨b2, off2, none⟩ : Addr).add j) = some u := by
          intro j u hj
          have hjl := (List.getElem?_eq_some_iff.1 hj).1
          rw [A1] at hjl
          rw [Go.WideShapes.add_plain, hcells j (by omega), ← hj]
          have hlen : j < row.length := by rw [← HLk.out]; omega
          simp [hjl, hlen, List.getD]
        have A3 : ((row.drop (cj + 1)).map (Value.int .i64)).length = L - (cj + 1) := by simp [← HLk.out]
        have A4 : ∀ w1, wr.grownBy w1 none → ∀ j u, ((row.drop (cj + 1)).map (Value.int .i64))[j]? = some u →
            ∃ ad', (if rc = cj + 1 then some (⟨b2, off2, none⟩ : Addr) else some ⟨b2, off2 + (cj + 1), none⟩) = some ad' ∧ w1.cell? (ad'.add j) = some u := by
          intro w1 hg1 j u hj
          have hjl := (List.getElem?_eq_some_iff.1 hj).1
          rw [A3] at hjl
          rw [if_neg (by omega)]
          refine ⟨_, rfl, ?_⟩
          rw [Go.WideShapes.add_plain]
          refine hg1.cell ?_ (by simp)
          rw [Nat.add_assoc, hcells (cj + 1 + j) (by omega), ← hj]
          have hlen : cj + 1 + j < row.length := by rw [← HLk.out]; omega
          simp [hlen, List.getD]
        have A5 : (if rc = cj + 1 then some (⟨b2, off2, none⟩ : Addr) else some ⟨b2, off2 + (cj + 1), none⟩) = none → rc - (cj + 1) = 0 := by intro h; split at h <;> cases h
        have A6 : ∀ w2 v2, w2.ownsRow wr.heap.size 3 1 v2 (0 + cj + (L - (cj + 1))) ([] ++ (row.take cj).map (Value.int .i64) ++ (row.drop (cj + 1)).map (Value.int .i64)) → OwnInts w2 wr.heap.size v2 (row.eraseIdx cj) := by
          intro w2 v2 h
          unfold OwnInts
          have e1 : 0 + cj + (L - (cj + 1)) = (row.eraseIdx cj).length := by rw [List.length_eraseIdx_of_lt (by rw [← HLk.out]; omega), ← HLk.out]; omega
          rw [List.nil_append, eraseIdx_parts, e1] at h
          exact h
        have A1' := Lib.hid A1
        have A2' := Lib.hid A2
        have A3' := Lib.hid A3
        have A4' := Lib.hid A4
        have A5' := Lib.hid A5
        have A6' := Lib.hid A6
        obtain ⟨vs, hvs⟩ := hown.vals
        have hvl : vs.length = k ∨ vs.length + 1 = k := by
          rw [hvs.2.1]
          unfold cutTo
          rw [List.length_map, List.length_eraseIdx]
          simp only [List.length_take, HL.out]
          split <;> omega
        have HVS := Lib.hid hvs
        have HOW := Lib.hid hown
        clear A1 A2 A3 A4 A5 A6 hki hvs hown hcells
        go_wp2_with (first
          | (at_builtin; refine wpList_append_own1 (o := ⟨some 24, _, _, _, _, _⟩) rfl _ _ 23 rfl wr.heap.size 3 ii (.int .i64 0) 8 Tryd.underlying23 hi hz0 hz1 hz2 rfl _ 0 [] rfl (World.ownsRow_nil _ _ _ _) _ cj _ ((row.take cj).map (Value.int .i64)) rfl A1'.out (fun h => by cases h) (fun j u h => ⟨_, rfl, A2'.out j u h⟩) (ints_oneCell _ _) (by unfold maxLen; omega) (by omega) (Nat.le_refl _) ?_; intro v1 w1 hown1 hgrow1)
          | (at_builtin; refine wpList_append_own1 (o := ⟨some 31, _, _, _, _, _⟩) rfl _ _ 23 rfl wr.heap.size 3 ii (.int .i64 0) 8 Tryd.underlying23 hi hz0 hz1 hz2 rfl _ (0 + cj) ([] ++ (row.take cj).map (Value.int .i64)) rfl hown1 _ (L - (cj + 1)) _ ((row.drop (cj + 1)).map (Value.int .i64)) rfl A3'.out A5'.out (fun j u h => A4'.out _ hgrow1 j u h) (ints_oneCell _ _) (by unfold maxLen; omega) (by omega) hgrow1.size ?_; intro v2 w2 hown2 hgrow2; obtain ⟨ra2, ln2, rc2, rfl⟩ := OwnInts.isSlice hown2)
          | (at_builtin; refine wpList_append_own1 (o := ⟨some 33, _, _, _, _, _⟩) rfl _ _ 22 rfl B 23 ji (.slice none 0 0) 24 Tryd.underlying22 hj hy0 hy1 hy2 rfl _ vs.length vs rfl ((HVS.out.1.call (fresh2 hgrow1 hown1 hgrow2)).alloc _) (some ⟨w2.heap.size, 0, none⟩) 1 1 [.slice ra2 ln2 rc2] rfl rfl (fun h => by cases h) (one_new _ _ _) (one_slice _ _ _) (by unfold maxLen; omega) (by omega) (le_alloc (Nat.le_trans hsz (fresh2 hgrow1 hown1 hgrow2).size) _) ?_; intro v3 w3 hown3 hgrow3))
        all_goals
          have hbf := fresh2 hgrow1 hown1 hgrow2
          have hsn := OwnRowsV.snoc HVS.out hsz hbf (A6'.out _ _ hown2) hown3 hgrow3
          rw [HRK.out.symm, ← cutTo_miss rows ci cj k HKK.out HKI.out] at hsn
          have hbel3 : Below B w _ := hbel.trans ((hbf.mono hsz).trans (((Below.refl B _).alloc (Nat.le_trans hsz hbf.size) _).trans (grown_below hgrow3 (le_alloc (Nat.le_trans hsz hbf.size) _) (fun k hk => (World.ownsRow.lt HVS.out.1 k hk).1))))
          go_roundg (gk - 1)
          case measure => omega
          case rel => exact ⟨k + 1, by omega, by omega, by go_num, hsn, hbel3, by have := hbel3.size; rw [HB.out] at *; exact this⟩
    · have hfin : cutTo rows ci cj k = cut rows ci cj := by unfold cutTo cut; rw [List.take_of_length_le (by rw [HL.out]; omega)]
      rw [hfin] at hown
      have HOW := Lib.hid hown
      clear hown hfin
      go_wp2_with fail
      go_ret
      exact ⟨⟨_, rfl, HOW.out⟩, hbel⟩
end Go.Proofs.YtijlhdgagaehaaaDoor
