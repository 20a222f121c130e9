/- Contract of the reference's Add. -/
import Derived.Test.YtokneabcgmjhdaaGreatDoorRefSet
namespace Go.Proofs.YtokneabcgmjhdaaGreatDoor
open Go.RowKit
set_option linter.unusedVariables false
set_option linter.unusedSimpArgs false

set_option maxRecDepth 100000 in
set_option maxHeartbeats 1000000 in
theorem RAdd_bad (a : Option Addr) (cap : Nat) (text : ByteArray) (many : Nat) (i j n : Int) (w : World) (he : addErr i j n many ≠ 0) :
    Calls Tryz.prog 34 #[refV a cap text many, .int .i64 i, .int .i64 j, .int .i64 n] w fun e w' => e = .returned (.tuple #[refV a cap text many, .int .i64 (addErr i j n many)]) ∧ Below w.heap.size w w' := by
  have hv : addErr i j n many = if placeErr i j n ≠ 0 then placeErr i j n else if i = j then 6 else if 60 ≤ many then 4 else 0 := rfl
  rw [place_in] at hv
  generalize addErr i j n many = v at *
  cases e1 : inB i 0 3 <;> cases e2 : inB j 0 3 <;> cases e3 : inB n 0 9972
  all_goals rw [e1, e2, e3] at hv
  any_goals
    obtain rfl : v = 1 := by simpa using hv
    clear hv he
    go_enter Tryz.func34, Tryz.ntmps34
    go_wp2_with (go_at_call 51; refine (rin_any _ _ _ _).mono ?_; rintro e w1 ⟨rfl, rfl⟩)
    (try simp only [Exit.inBlock, Exit.then])
    refine bodyPost_ret (results_cell_row_tmp rfl _ _ (w.heap.size + 1) 48 #[.slice a 4 cap, .string text, .int .i64 many] (0, 0) _ rfl (heap_alloc2_new _ _ _) Tryz.underlying48 rfl (by kernel_rfl)) rfl ⟨rfl, ?_⟩
    exact ((Below.refl _ _).alloc (Nat.le_refl _) _).alloc (by simp) _
  simp only [Bool.and_self, if_true, ne_eq, not_true_eq_false, if_false] at hv
  by_cases hij : i = j
  · have hb : (i == j) = true := by simp [hij]
    rw [if_pos hij] at hv
    subst hv
    clear hij he
    go_enter Tryz.func34, Tryz.ntmps34
    go_wp2_with (go_at_call 51; refine (rin_any _ _ _ _).mono ?_; rintro e w1 ⟨rfl, rfl⟩)
    (try simp only [Exit.inBlock, Exit.then])
    refine bodyPost_ret (results_cell_row_tmp rfl _ _ (w.heap.size + 1) 48 #[.slice a 4 cap, .string text, .int .i64 many] (0, 0) _ rfl (heap_alloc2_new _ _ _) Tryz.underlying48 rfl (by kernel_rfl)) rfl ⟨rfl, ?_⟩
    exact ((Below.refl _ _).alloc (Nat.le_refl _) _).alloc (by simp) _
  · have hb : (i == j) = false := by simp [hij]
    rw [if_neg hij] at hv
    by_cases hm : 60 ≤ many
    · rw [if_pos hm] at hv
      subst hv
      have hmi : (60 : Int) ≤ many := by omega
      clear hij he hm
      go_enter Tryz.func34, Tryz.ntmps34
      go_wp2_with (go_at_call 51; refine (rin_any _ _ _ _).mono ?_; rintro e w1 ⟨rfl, rfl⟩)
      (try simp only [Exit.inBlock, Exit.then])
      refine bodyPost_ret (results_cell_row_tmp rfl _ _ (w.heap.size + 1) 48 #[.slice a 4 cap, .string text, .int .i64 many] (0, 0) _ rfl (heap_alloc2_new _ _ _) Tryz.underlying48 rfl (by kernel_rfl)) rfl ⟨rfl, ?_⟩
      exact ((Below.refl _ _).alloc (Nat.le_refl _) _).alloc (by simp) _
    · rw [if_neg hm] at hv; exact absurd hv he

theorem addErr_ok {i j n : Int} {L : Nat} (he : addErr i j n L = 0) : placeErr i j n = 0 ∧ i ≠ j ∧ L < 60 := by
  unfold addErr at he
  by_cases h : placeErr i j n = 0
  · rw [if_neg (by omega)] at he
    refine ⟨h, ?_⟩
    by_cases hij : i = j
    · rw [if_pos hij] at he; cases he
    · rw [if_neg hij] at he
      refine ⟨hij, ?_⟩
      by_cases h6 : 60 ≤ L
      · rw [if_pos h6] at he; cases he
      · omega
  · rw [if_pos h] at he; exact absurd he h

set_option maxRecDepth 100000 in
set_option maxHeartbeats 2000000 in
theorem RAdd_good (a : Option Addr) (cap : Nat) (text : ByteArray) (many : Nat) (i j n : Int) (rows : List (List Int)) (w : World) (hr : RowsAt w a 4 rows) (hsq : Sq 4 rows) (hent : ∀ i j, i < 4 → j < 4 → 0 ≤ fn rows i j ∧ fn rows i j < 9973) (hcap : 4 ≤ cap) (ht : text.size ≤ 100000) (he : addErr i j n many = 0) :
    Calls Tryz.prog 34 #[refV a cap text many, .int .i64 i, .int .i64 j, .int .i64 n] w fun e w' => (∃ a' cap', e = .returned (.tuple #[refV a' cap' (gain text wordA [i, j, n]) ((many : Int) + 1), .int .i64 0]) ∧ OwnRows w' w.heap.size (.slice a' 4 cap') (addTo rows i.toNat j.toNat n 4) ∧ 4 ≤ cap') ∧ Below w.heap.size w w' := by
  obtain ⟨hp, hij, hL⟩ := addErr_ok he
  obtain ⟨⟨hi0, hi3⟩, ⟨hj0, hj3⟩, hn0, hn3⟩ := placeErr_ok hp
  have e1 := inB_yes hi0 hi3
  have e2 := inB_yes hj0 hj3
  have e3 := inB_yes hn0 hn3
  have hbij : (i == j) = false := by simp [hij]
  obtain ⟨p, rfl⟩ : ∃ p : Nat, i = p := ⟨i.toNat, by omega⟩
  obtain ⟨q, rfl⟩ : ∃ q : Nat, j = q := ⟨j.toNat, by omega⟩
  obtain ⟨m, rfl⟩ : ∃ m : Nat, n = m := ⟨n.toNat, by omega⟩
  have hpn : p < 4 := by omega
  have hqn : q < 4 := by omega
  have hpq : p ≠ q := by omega
  rw [show (p : Int).toNat = p by omega, show (q : Int).toNat = q by omega]
  have hL' : (many : Int) < 60 := by omega
  have HR := Lib.hid hr
  have HSQ := Lib.hid hsq
  have HENT := Lib.hid hent
  have HCP := Lib.hid (fun (W : World) (h : RowsAt W a 4 rows) => RCopy_any a 4 cap rows W h (by omega) hcap (fun k hk => by rw [hsq.2 k hk]; omega))
  have HD := Lib.hid (fun a' cap' W => Down_any a' cap' text wordA many p q m W ht rfl (by omega) (by omega) (by omega) (by omega))
  have hp0 : (0 : Int) ≤ p := by omega
  have hq0 : (0 : Int) ≤ q := by omega
  have hp4 : (p : Int) < 4 := by omega
  have hq4 : (q : Int) < 4 := by omega
  have hm3 : (m : Int) ≤ 9972 := hn3
  clear hr hsq hent he hp hL hi0 hi3 hj0 hj3 hn0 hn3 hij
  go_enter Tryz.func34, Tryz.ntmps34
  go_wp2_with (go_at_call 51; refine (rin_any _ _ _ _).mono ?_; rintro e w1 ⟨rfl, rfl⟩)
  go_at_call 52
  refine (HCP.out _ (HR.out.call (((Below.refl _ _).alloc (Nat.le_refl _) _).alloc (by simp) _))).mono ?_
  rintro e w1 ⟨⟨v, rfl, ho⟩, hb1⟩
  obtain ⟨vs, hvs⟩ := ho.vals
  obtain ⟨G, c1, rfl, hc1⟩ := hvs.isRows (by rw [HSQ.out.1]; omega)
  rw [HSQ.out.1] at hvs hc1 ⊢
  have hlt0 : w.heap.size < (w.alloc (.cells #[.slice a 4 cap, .string text, .int .i64 many] 48)).heap.size := by simp
  have hbx : w1.heap[w.heap.size]? = some (.cells #[.slice a 4 cap, .string text, .int .i64 many] 48 (0, 0)) := by
    rw [hb1.block _ (by simp; omega), heap_alloc_old _ _ hlt0]; exact heap_alloc_new _ _
  have hby : w1.heap[w.heap.size + 1]? = some (boxO (.slice none 0 0)) := by
    rw [hb1.block _ (by simp)]; exact heap_alloc2_new _ _ _
  have hbel1 : Below w.heap.size w w1 := (((Below.refl _ _).alloc (Nat.le_refl _) _).alloc (by simp) _).trans (hb1.mono (by simp; omega))
  have q0 : w1.cell? ⟨w.heap.size, 0, none⟩ = some (.slice a 4 cap) := by simp [World.cell?, hbx]
  have f0 : w1.frozen? ⟨w.heap.size, 0, none⟩ = false := by simp [World.frozen?, hbx]
  clear hb1
  simp only [World.size_alloc] at hvs
  have hst := hvs.storeLow (g := w.heap.size) (by omega) 0 (.slice (some ⟨G, 0, none⟩) 4 c1)
  have hbx2 : (w1.setCell ⟨w.heap.size, 0, none⟩ (.slice (some ⟨G, 0, none⟩) 4 c1)).heap[w.heap.size]? = some (.cells #[.slice (some ⟨G, 0, none⟩) 4 c1, .string text, .int .i64 many] 48 (0, 0)) := by
    show (w1.heap.modify w.heap.size _)[w.heap.size]? = _
    rw [Array.getElem?_modify, if_pos rfl, hbx]
    rfl
  have hby2 : (w1.setCell ⟨w.heap.size, 0, none⟩ (.slice (some ⟨G, 0, none⟩) 4 c1)).heap[w.heap.size + 1]? = some (boxO (.slice none 0 0)) := by
    rw [heap_setCell_other _ _ _ _ (by simp)]; exact hby
  have hbel2 := hbel1.setCell (p := ⟨w.heap.size, 0, none⟩) (Nat.le_refl _) (.slice (some ⟨G, 0, none⟩) 4 c1)
  go_upto_region 8 with (fail)
  generalize w1.setCell ⟨w.heap.size, 0, none⟩ (.slice (some ⟨G, 0, none⟩) 4 c1) = w2 at *
  clear hbel1 hbx hby q0 f0 hvs ho
  go_wp2_with fail
  go_loopg [10] 5 (fun gg ci wr => ∃ c : Nat, c ≤ 4 ∧ 4 - c < gg ∧ ci = .int .i64 c ∧ OwnRowsV wr (w.heap.size + 1 + 1) (.slice (some ⟨G, 0, none⟩) 4 c1) vs (addTo rows p q m c) ∧ wr.heap[w.heap.size]? = some (.cells #[.slice (some ⟨G, 0, none⟩) 4 c1, .string text, .int .i64 many] 48 (0, 0)) ∧ wr.heap[w.heap.size + 1]? = some (boxO (.slice none 0 0)) ∧ Below w.heap.size w wr)
  case atStart => exact ⟨0, by omega, by omega, rfl, hst, hbx2, hby2, hbel2⟩
  case round =>
    clear hst hbx2 hby2 hbel2
    obtain ⟨c, hc, hg, rfl, hoR, hbx, hby, hbel⟩ := hrel
    have HO := Lib.hid hoR
    have HBX := Lib.hid hbx
    have HBY := Lib.hid hby
    have q0 : wr.cell? ⟨w.heap.size, 0, none⟩ = some (.slice (some ⟨G, 0, none⟩) 4 c1) := by simp [World.cell?, hbx]
    have q1 : wr.cell? ⟨w.heap.size, 1, none⟩ = some (.string text) := by simp [World.cell?, hbx]
    have q2 : wr.cell? ⟨w.heap.size, 2, none⟩ = some (.int .i64 many) := by simp [World.cell?, hbx]
    have l2 := (Array.getElem?_eq_some_iff.1 hby).1
    clear hoR hbx hby
    by_cases hlt : c < 4
    · obtain ⟨g1, rc1, e4, eB, e2', eG, e1', e5, e6, -⟩ := HO.out.at (addTo_sq HSQ.out p q m c) hpn hlt
      obtain ⟨g2, rc2, k4, kB, k2, kG, k1, k5, k6, -⟩ := HO.out.at (addTo_sq HSQ.out p q m c) hqn hlt
      have hc0 : (0 : Int) ≤ c := by omega
      have hc4 : (c : Int) < 4 := by omega
      have hU : fn (addTo rows p q m c) p c = fn rows p c := by rw [fn_addTo HSQ.out hpn hqn m p c c (by omega), if_neg (by omega)]
      have hV : fn (addTo rows p q m c) q c = fn rows q c := by rw [fn_addTo HSQ.out hpn hqn m q c c (by omega), if_neg (by omega)]
      rw [hU] at e6
      rw [hV] at k6
      have hu := HENT.out p c hpn hlt
      have hv := HENT.out q c hqn hlt
      obtain ⟨u, hu'⟩ : ∃ u, u = fn rows p c := ⟨_, rfl⟩
      obtain ⟨v, hv'⟩ : ∃ v, v = fn rows q c := ⟨_, rfl⟩
      rw [← hu'] at e6 hu
      rw [← hv'] at k6 hv
      obtain ⟨t, ht'⟩ : ∃ t, t = (m : Int) * v := ⟨_, rfl⟩
      have ht1 : 0 ≤ t := by rw [ht']; exact Int.mul_nonneg (by omega) (by omega)
      have ht2 : t ≤ 9972 * 9972 := by rw [ht']; exact Int.mul_le_mul hm3 (by omega) (by omega) (by omega)
      have hts : (m : Int) * v = t := ht'.symm
      have hw1 : IntKind.i64.wrap t = t := IntWalk.i64_in _ (by omega)
      have hw2 : IntKind.i64.wrap (u + t) = u + t := IntWalk.i64_in _ (by omega)
      have hF := fun W => RMod_any (u + t) W
      obtain ⟨r, hr⟩ : ∃ r, r = (u + t) % 9973 := ⟨_, rfl⟩
      rw [← hr] at hF
      have HR2 := Lib.hid (show putE (addTo rows p q m c) p c r = addTo rows p q m (c + 1) from by rw [addTo, hr, ht', hu', hv'])
      have z1 : w.heap.size < wr.heap.size := by omega
      have z3 : G < wr.heap.size := World.block_lt_of_cell? _ _ e4
      have z4 : g1 < wr.heap.size := e2'
      have z5 : g2 < wr.heap.size := k2
      have HFF := Lib.hid hF
      have E1 := Lib.hid e1'
      clear hu' hv' ht' hr hF e1' e2' k2 k1 hU hV eG kG k5
      go_wp2_with fail
      refine wp_region_quiet_tail (C := Cls wr.heap.size wr) 27 (by kernel_rfl) (by kernel_rfl) Cls.start ?_
      simp only [List.take_succ_cons, List.take_zero, List.drop_succ_cons, List.drop_zero]
      repeat
        (refine wpQuiet_step (fun K hK => ?_)
         go_simp
         first
           | (refine hK _ ?_; clear hK K)
           | (apply Exists.intro
              refine ⟨fun w' hC => ?_, hK _ ?_⟩
              · (obtain ⟨hr, hr2⟩ := hC.rules
                 first
                   | (go_at_call 54; exact Cls.callSame hC (HFF.out _))
                   | (go_simp; done)
                   | (go_simp; rfl))
              clear hK K))
      refine wpQuiet_nil ?_
      intro W5 hW5
      obtain ⟨hcc, hff⟩ := hW5.rules
      go_wp2_with fail
      have HO5 := HO.out.call (w' := W5) hW5
      obtain ⟨g', rc', x1, x2, x3, x4, x5, x6, x7, x8⟩ := HO5.at (addTo_sq HSQ.out p q m c) hpn hlt
      have x5' := E1.out
      rw [x5] at x5'
      cases x5'
      go_roundg (4 - c)
      case measure => omega
      case rel =>
        refine ⟨c + 1, by omega, by omega, by go_num, by rw [← HR2.out]; exact x8 r, ?_, ?_, ?_⟩
        · rw [heap_setCell_other _ _ _ _ (by show w.heap.size ≠ g1; omega), hW5.block _ z1]; exact HBX.out
        · rw [heap_setCell_other _ _ _ _ (by show w.heap.size + 1 ≠ g1; omega), hW5.block _ l2]; exact HBY.out
        · exact (hbel.trans (hW5.mono (by omega))).setCell (p := ⟨g1, c, none⟩) (by show w.heap.size ≤ g1; omega) _
    · obtain rfl : c = 4 := by omega
      go_wp2_with fail
      go_at_call 53
      refine (HD.out _ _ _).mono ?_
      rintro e w4 ⟨rfl, hb4⟩
      have hby4 : w4.heap[w.heap.size + 1]? = some (boxO (.slice none 0 0)) := by rw [hb4.block _ l2]; exact HBY.out
      have s0 : w4.cell? ⟨w.heap.size + 1, 0, none⟩ = some (.slice none 0 0) := by simp [World.cell?, hby4]
      have s1 : w4.cell? ⟨w.heap.size + 1, 1, none⟩ = some (.string ⟨#[]⟩) := by simp [World.cell?, hby4]
      have s2 : w4.cell? ⟨w.heap.size + 1, 2, none⟩ = some (.int .i64 0) := by simp [World.cell?, hby4]
      have t0 : w4.frozen? ⟨w.heap.size + 1, 0, none⟩ = false := by simp [World.frozen?, hby4]
      have t1 : w4.frozen? ⟨w.heap.size + 1, 1, none⟩ = false := by simp [World.frozen?, hby4]
      have t2 : w4.frozen? ⟨w.heap.size + 1, 2, none⟩ = false := by simp [World.frozen?, hby4]
      have hbel4 := below_trans hbel hb4
      have HO4 := Lib.hid (HO.out.call hb4)
      clear q0 q1 q2 hb4
      go_wp2_with fail
      (try simp only [Exit.inBlock, Exit.then])
      refine bodyPost_ret (results_cell_row_tmp rfl _ _ (w.heap.size + 1) 48 #[.slice (some ⟨G, 0, none⟩) 4 c1, .string (gain text wordA [(p : Int), q, m]), .int .i64 ((many : Int) + 1)] (0, 0) _ rfl (box_store3 hby4) Tryz.underlying48 rfl (by kernel_rfl)) rfl ⟨⟨_, _, rfl, ?_, hc1⟩, box_below3 hbel4 (by omega)⟩
      have hfin := (((((HO4.out.storeLow (g := w.heap.size + 1) (by omega) 0 (.slice (some ⟨G, 0, none⟩) 4 c1)).storeLow (g := w.heap.size + 1) (by omega) 1 (.string (gain text wordA [(p : Int), q, m]))).storeLow (g := w.heap.size + 1) (by omega) 2 (.int .i64 ((many : Int) + 1))).mono (B := w.heap.size) (by omega)).rows)
      exact hfin
end Go.Proofs.YtokneabcgmjhdaaGreatDoor
