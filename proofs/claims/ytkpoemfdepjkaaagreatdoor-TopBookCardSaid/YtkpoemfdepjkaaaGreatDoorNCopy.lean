/- Contract of num.Copy. -/
import Derived.Test.YtkpoemfdepjkaaaGreatDoorBase
import Derived.Deep.LoopGhost
namespace Go.Proofs.YtkpoemfdepjkaaaGreatDoor
open Go.RowKit
set_option linter.unusedVariables false
set_option linter.unusedSimpArgs false

/-- the first k rows copied -/
def copyTo (rows : List (List Int)) (n k : Nat) : List (List Int) := rows.take k ++ List.replicate (n - k) []
theorem copyTo_len (rows : List (List Int)) (n k : Nat) (hk : k ≤ n) (hl : rows.length = n) : (copyTo rows n k).length = n := by simp [copyTo]; omega
theorem copyTo_set (rows : List (List Int)) (n k : Nat) (hk : k < n) (hl : rows.length = n) : (copyTo rows n k).set k (rows.getD k []) = copyTo rows n (k + 1) := by
  unfold copyTo
  rw [List.set_append_right _ _ (by simp; omega)]
  rw [List.length_take, show k - min k rows.length = 0 by omega, show n - k = (n - (k + 1)) + 1 from by omega, List.replicate_succ, List.set_cons_zero, take_snoc_rows rows k (by omega), List.append_assoc]
  rfl

theorem NCopy_any (a : Option Addr) (n cap : Nat) (rows : List (List Int)) (w : World) (hr : RowsAt w a n rows) (hn2 : n ≤ 1000) (hcap : n ≤ cap) (hw : ∀ k, k < n → (rows.getD k []).length ≤ 1000000) :
    Calls Tryz.prog 26 #[.slice a n cap] w fun e w' => (∃ G, ∃ vs, e = .returned (.slice (some ⟨G, 0, none⟩) n n) ∧ OwnRowsV w' w.heap.size (.slice (some ⟨G, 0, none⟩) n n) vs rows) ∧ Below w.heap.size w w' := by
  obtain ⟨ii, hi, hz0, hz1, hz2⟩ := info_parts info_int
  obtain ⟨ji, hj, hy0, hy1, hy2⟩ := info_parts info_ints
  obtain ⟨B, hB⟩ : ∃ B, B = w.heap.size := ⟨_, rfl⟩
  rw [← hB]
  have HB := Lib.hid hB
  have HR := Lib.hid hr
  have HW := Lib.hid hw
  have HL := Lib.hid hr.1
  have hBle : B ≤ w.heap.size := by omega
  clear hB hr hw
  go_enter Tryz.func26, Tryz.ntmps26
  go_wp2_with (at_make; refine wpList_make_full _ rfl _ _ 22 rfl B 45 ji (.slice none 0 0) 1 Tryz.underlying22 hj hy0 hy1 _ _ _ _ n rfl rfl rfl rfl (by rw [hy2]; omega) (by unfold maxLen; omega) hBle ?_; intro w1 hown1 hgrow1)
  generalize hG : w.heap.size = G at *
  go_loopg [11] (n + 1) (fun g i wr => ∃ k : Nat, k ≤ n ∧ n - k < g ∧ i = .int .i64 k ∧ (∃ vs, OwnRowsV wr B (.slice (some ⟨G, 0, none⟩) n n) vs (copyTo rows n k)) ∧ Below B w wr ∧ B ≤ wr.heap.size)
  case atStart =>
    refine ⟨0, by omega, by omega, rfl, ⟨_, by simpa [copyTo] using vals_made hown1⟩, grown_below hgrow1 (by omega) (fun k hk => by cases hk), ?_⟩
    have := hgrow1.size
    omega
  case round =>
    obtain ⟨k, hk, hg, rfl, ⟨vs, hvs⟩, hbel, hsz⟩ := hrel
    clear hown1 hgrow1
    by_cases hlt : k < n
    · have hfz := hvs.free k
      have hcell := hvs.isCell (k := k) (by rw [copyTo_len rows n k hk HL.out]; exact hlt)
      obtain ⟨hbG, hlG⟩ := hvs.base
      generalize vs.getD k undef = u at hcell
      have HVS := Lib.hid hvs
      have hrr := HR.out.call (w' := wr) (by rw [hG, ← HB.out]; exact hbel)
      obtain ⟨b, off, ra, rc, rfl, hc, e1, e2, e3, e4⟩ := hrr.2 k hlt
      have hwk := HW.out k hlt
      obtain ⟨row, hrow⟩ : ∃ r, r = rows.getD k [] := ⟨_, rfl⟩
      rw [← hrow] at hc e1 e4 hwk
      obtain ⟨M, hM⟩ : ∃ M, M = row.length := ⟨_, rfl⟩
      rw [← hM] at hc e1 e4 hwk
      have HRW := Lib.hid hrow
      have hMl : (row.map (Value.int .i64)).length = M := by rw [List.length_map, hM]
      have HM := Lib.hid hMl
      have HM2 := Lib.hid hM
      have E3 := Lib.hid e3
      have E4 := Lib.hid (cells_of_ints e4)
      clear hvs hrow hM hMl e3 e4 hrr
      go_wp2_with (at_builtin; refine wpList_append_own1 (o := ⟨some 19, _, _, _, _, _⟩) rfl _ _ 45 rfl wr.heap.size 3 ii (.int .i64 0) 8 Tryz.underlying45 hi hz0 hz1 hz2 rfl _ 0 [] rfl (World.ownsRow_nil _ _ _ _) _ M _ (row.map (Value.int .i64)) rfl HM.out E3.out (fun j u h => E4.out j u h) (ints_oneCell _ _) (by unfold maxLen; omega) (by omega) (Nat.le_refl _) ?_; intro v2 w2 hown2 hgrow2; have hcell2 := (show wr.grownBy w2 none from hgrow2).cell hcell (by simp); have hfz2 := (fresh1 hgrow2).frozen (p := ⟨G, k, none⟩) hlG; obtain ⟨ra2, ln2, rc2, rfl⟩ := OwnInts.isSlice hown2)
      have hf1 := fresh1 hgrow2
      have hoi : OwnInts w2 wr.heap.size (.slice ra2 ln2 rc2) row := by
        unfold OwnInts
        rw [← HM2.out]
        simpa using hown2
      have hp := OwnRowsV.put HVS.out hsz hf1 hoi k (by rw [copyTo_len rows n k hk HL.out]; exact hlt)
      rw [HRW.out, copyTo_set rows n k hlt HL.out] at hp
      have hbel2 := (hbel.trans (hf1.mono hsz)).setCell (p := ⟨G, k, none⟩) hbG (.slice ra2 ln2 rc2)
      go_roundg (n - k)
      case measure => omega
      case rel =>
        refine ⟨k + 1, by omega, by omega, by go_num, ⟨_, hp⟩, hbel2, ?_⟩
        have := hf1.size
        rw [Go.Deep.nblk_setCell]
        omega
    · obtain rfl : k = n := by omega
      have e : copyTo rows k k = rows := by unfold copyTo; rw [List.take_of_length_le (by rw [HL.out]; omega)]; simp
      rw [e] at hvs
      have HVS := Lib.hid hvs
      clear hvs e
      go_wp2_with fail
      go_ret
      exact ⟨⟨_, _, rfl, HVS.out⟩, hbel⟩
end Go.Proofs.YtkpoemfdepjkaaaGreatDoor
