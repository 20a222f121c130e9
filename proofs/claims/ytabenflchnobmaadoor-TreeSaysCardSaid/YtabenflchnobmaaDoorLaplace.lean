/- Contract of tree.laplace. -/
import Derived.Test.YtabenflchnobmaaDoorGrid
import Derived.Test.YtabenflchnobmaaDoorTreeMath
import Derived.BigQuiet
import Derived.Deep.DeepCutAuto
namespace Go.Proofs.YtabenflchnobmaaDoor
open Go.RowKit
set_option linter.unusedVariables false
set_option linter.unusedSimpArgs false

/-- Grid as it stands at a call -/
theorem Grid_call (r c : Int) (w : World) (hr0 : 0 ≤ r) (hr : r ≤ 1000) (hc0 : 0 ≤ c) (hc : c ≤ 1000) :
    Calls Tryd.prog 24 #[.int .i64 r, .int .i64 c] w fun e w' => (∃ G, ∃ vs, e = .returned (.slice (some ⟨G, 0, none⟩) r.toNat r.toNat) ∧ OwnRowsV w' w.heap.size (.slice (some ⟨G, 0, none⟩) r.toNat r.toNat) vs (List.replicate r.toNat (List.replicate c.toNat 0))) ∧ Below w.heap.size w w' := by
  obtain ⟨r, rfl⟩ := Int.eq_ofNat_of_zero_le hr0
  obtain ⟨c, rfl⟩ := Int.eq_ofNat_of_zero_le hc0
  exact Grid_any r c w (by omega) (by omega)

/-- one step of laplace on memory -/
theorem incr_mem {w : World} {B G n cap : Nat} {vs : List Value} {rows : List (List Int)} (h : OwnRowsV w B (.slice (some ⟨G, 0, none⟩) n cap) vs rows) (hsq : Sq n rows) (he : Ent 100 rows) {i j : Nat} (hi : i < n) (hj : j < n) :
    ∃ g rc v, w.cell? ⟨G, i, none⟩ = some (.slice (some ⟨g, 0, none⟩) n rc) ∧ B ≤ g ∧ w.frozen? ⟨g, j, none⟩ = false ∧ w.cell? ⟨g, j, none⟩ = some (.int .i64 v) ∧ -100 ≤ v ∧ v ≤ 100 ∧
      ∀ d, OwnRowsV (w.setCell ⟨g, j, none⟩ (.int .i64 (v + d))) B (.slice (some ⟨G, 0, none⟩) n cap) vs (incr rows i j d) := by
  have hil : i < rows.length := by rw [hsq.1]; exact hi
  have hc := h.isCell hil
  obtain ⟨g, rc, e, hB, hg, hf, hcell, hset⟩ := h.elem hil (by rw [hsq.2 i hi]; omega)
  rw [hsq.2 i hi] at e hcell
  have hb := he i j
  exact ⟨g, rc, _, by rw [hc, e], hB, hf j, hcell j hj, hb.1, hb.2, fun d => hset j _⟩

set_option maxHeartbeats 1000000 in
theorem laplace_any (n : Int) (a : Option Addr) (m cap : Nat) (ps : List (List Int)) (w : World) (hr : RowsAt w a m ps) (hn1 : 1 ≤ n) (hn : n ≤ 6) (hm : m ≤ 15) (hg : ∀ p ∈ ps, GoodP n p) :
    Calls Tryd.prog 18 #[.int .i64 n, .slice a m cap] w fun e w' => (∃ G, ∃ vs, e = .returned (.slice (some ⟨G, 0, none⟩) n.toNat n.toNat) ∧ OwnRowsV w' w.heap.size (.slice (some ⟨G, 0, none⟩) n.toNat n.toNat) vs (lapOf n.toNat ps)) ∧ Below w.heap.size w w' := by
  obtain ⟨N, rfl⟩ := Int.eq_ofNat_of_zero_le (show 0 ≤ n by omega)
  obtain ⟨B, hB⟩ : ∃ B, B = w.heap.size := ⟨_, rfl⟩
  simp only [Int.toNat_natCast]
  rw [← hB]
  have HB := Lib.hid hB
  have HR := Lib.hid hr
  have HG := Lib.hid hg
  clear hr hg hB
  go_enter Tryd.func18, Tryd.ntmps18
  go_wp2_with fail
  go_at_call 24
  refine (Grid_call _ _ w (by omega) (by omega) (by omega) (by omega)).mono ?_
  rintro e w1 ⟨⟨G, vs, rfl, hv⟩, hb⟩
  simp only [Int.toNat_natCast] at hv ⊢
  rw [← HB.out] at hv hb
  have HV := Lib.hid hv
  clear hv
  go_wp2_with fail
  go_loopg [15] (m + 1) (fun g i wr => ∃ k : Nat, k ≤ m ∧ m - k < g ∧ i = .int .i64 k ∧ OwnRowsV wr B (.slice (some ⟨G, 0, none⟩) N N) vs (lapOf N (ps.take k)) ∧ Below B w wr)
  case atStart => exact ⟨0, by omega, by omega, rfl, by simpa [lapOf] using HV.out, hb⟩
  case round =>
    obtain ⟨k, hk, hg, rfl, hown, hbel⟩ := hrel
    clear hb
    have HOW := Lib.hid hown
    clear hown
    by_cases hlt : k < m
    · have hrr := HR.out.call (w' := wr) (by rw [← HB.out]; exact hbel)
      obtain ⟨b, off, ra, rc, rfl, hc, e1, e2, e3, e4⟩ := hrr.2 k hlt
      have hbr : b < wr.heap.size := World.block_lt_of_cell? _ _ hc
      have hmem : ps.getD k [] ∈ ps := by
        have : k < ps.length := by rw [HR.out.1]; exact hlt
        simp [List.getD, this]
      obtain ⟨x, y, hp, hxy, hx, hy⟩ := (HG.out _ hmem).pts
      rw [hp] at hc e1 e4
      obtain ⟨b2, off2, rfl, hb2, hcs⟩ := e4.some (by simp)
      have x0 := hcs 0 (by simp)
      have x1 := hcs 1 (by simp)
      simp only [List.length_cons, List.length_nil, List.getD_cons_zero, List.getD_cons_succ, Nat.add_zero, Nat.zero_add, Nat.reduceAdd] at hc x0 x1 e1
      have hsq := lapOf_sq N (ps.take k)
      have hxN : x < N := by omega
      have hyN : y < N := by omega
      have HP := Lib.hid hp
      have HXY := Lib.hid hxy
      have HSQ := Lib.hid hsq
      clear hrr hp e4 hcs hmem e3 hsq hxy
      go_wp2_with fail
      refine wp_region_quiet (C := Cls wr.heap.size wr) (by kernel_rfl) (by kernel_rfl) Cls.start ?_
      repeat
        (refine wpQuiet_step (fun K hK => ?_)
         go_simp
         first
           | (refine hK _ ?_; clear hK K)
           | (apply Exists.intro
              refine ⟨fun w' hC => ?_, hK _ ?_⟩
              · (obtain ⟨hr, hr2⟩ := hC.rules
                 first
                   | (fail)
                   | (go_simp; done)
                   | (go_simp; rfl))
              clear hK K))
      refine wpQuiet_nil ?_
      intro w2 hw2
      have hv2 := HOW.out.call hw2
      have hbel2 := hbel.trans (hw2.mono (by have := hbel.size; rw [← HB.out] at this; exact this))
      clear hw2 hc x0 x1 hbel hbr
      have he0 : Ent 60 (lapOf N (ps.take k)) := ent_mono (ent_lapOf (fun p hp => HG.out p (List.mem_of_mem_take hp))) (by
        have : (ps.take k).length ≤ k := List.length_take_le _ _
        omega)
      have he1 := ent_incr HSQ.out he0 hxN hxN (d := 1) (by omega)
      have he2 := ent_incr (incr_sq HSQ.out _ _ _) he1 hyN hyN (d := 1) (by omega)
      have he3 := ent_incr (incr_sq (incr_sq HSQ.out _ _ _) _ _ _) he2 hxN hyN (d := -1) (by omega)
      have E0 := Lib.hid (ent_mono he0 (show (60 : Int) ≤ 100 by omega))
      have E1 := Lib.hid (ent_mono he1 (show (60 + 1 : Int) ≤ 100 by omega))
      have E2 := Lib.hid (ent_mono he2 (show (60 + 1 + 1 : Int) ≤ 100 by omega))
      have E3 := Lib.hid (ent_mono he3 (show (60 + 1 + 1 + 1 : Int) ≤ 100 by omega))
      clear he0 he1 he2 he3
      obtain ⟨g1, r1, v1, ca1, hB1, hf1, hc1, b1, b1', hs1⟩ := incr_mem hv2 HSQ.out E0.out hxN hxN
      have H1 := Lib.hid (hs1 1)
      clear hs1 hv2
      go_upto_region 7 with (fail)
      have hbel3 := hbel2.setCell (p := ⟨g1, x, none⟩) hB1 (.int .i64 (v1 + 1))
      generalize w2.setCell ⟨g1, x, none⟩ (.int .i64 (v1 + 1)) = w3 at *
      clear hbel2 ca1 hf1 hc1
      obtain ⟨g2, r2, v2, ca2, hB2, hf2, hc2, b2', b2'', hs2⟩ := incr_mem H1.out (incr_sq HSQ.out _ _ _) E1.out hyN hyN
      have H2 := Lib.hid (hs2 1)
      clear hs2 H1
      go_upto_region 8 with (fail)
      have hbel4 := hbel3.setCell (p := ⟨g2, y, none⟩) hB2 (.int .i64 (v2 + 1))
      generalize w3.setCell ⟨g2, y, none⟩ (.int .i64 (v2 + 1)) = w4 at *
      clear hbel3 ca2 hf2 hc2
      obtain ⟨g3, r3, v3, ca3, hB3, hf3, hc3, b3', b3'', hs3⟩ := incr_mem H2.out (incr_sq (incr_sq HSQ.out _ _ _) _ _ _) E2.out hxN hyN
      have H3 := Lib.hid (hs3 (-1))
      clear hs3 H2
      go_upto_region 9 with (fail)
      have hbel5 := hbel4.setCell (p := ⟨g3, y, none⟩) hB3 (.int .i64 (v3 + -1))
      rw [Int.add_neg_eq_sub] at hbel5 H3
      generalize w4.setCell ⟨g3, y, none⟩ (.int .i64 (v3 - 1)) = w5 at *
      clear hbel4 ca3 hf3 hc3
      obtain ⟨g4, r4, v4, ca4, hB4, hf4, hc4, b4', b4'', hs4⟩ := incr_mem H3.out (incr_sq (incr_sq (incr_sq HSQ.out _ _ _) _ _ _) _ _ _) E3.out hyN hxN
      have H4 := Lib.hid (hs4 (-1))
      clear hs4 H3
      go_wp2_with fail
      have hbel6 := hbel5.setCell (p := ⟨g4, x, none⟩) hB4 (.int .i64 (v4 + -1))
      rw [Int.add_neg_eq_sub] at hbel6 H4
      go_roundg (m - k)
      case measure => omega
      case rel =>
        refine ⟨k + 1, by omega, by omega, by go_num, ?_, hbel6⟩
        have hkl : k < ps.length := by rw [HR.out.1]; exact hlt
        rw [take_snoc' ps k hkl, lapOf_snoc, HP.out]
        simpa [lapStep] using H4.out
    · have hfin : ps.take k = ps := by rw [List.take_of_length_le (by rw [HR.out.1]; omega)]
      rw [hfin] at HOW
      go_wp2_with fail
      go_ret
      exact ⟨⟨_, _, rfl, HOW.out⟩, hbel⟩
end Go.Proofs.YtabenflchnobmaaDoor
