/- Contracts of the desk's five commands. -/
import Derived.Test.YtokneabcgmjhdaaGreatDoorDeskB
import Derived.Test.YtokneabcgmjhdaaGreatDoorQuietAny
import Derived.Deep.RegionHeld3
namespace Go.Proofs.YtokneabcgmjhdaaGreatDoor
open Go.RowKit
set_option linter.unusedVariables false
set_option linter.unusedSimpArgs false

theorem Done_any (v : Value) (w : World) : Calls Tryz.prog 61 #[v] w fun e w' => e = .returned (.tuple #[.string ⟨#[111, 107]⟩, v]) ∧ w = w' := by
  go_enter Tryz.func61, Tryz.ntmps61
  go_wp2_with fail
  go_ret2
  exact ⟨rfl, rfl⟩
/-- a number's digits -/
theorem itoa_nat (x : Int) (h0 : 0 ≤ x) (h1 : x ≤ 1000000) (w : World) (hT : Lib.TabIs Tryz.prog w "internal/strconv.uint64pow10" .u64 Lib.pow10Tab) :
    Calls Tryz.prog 64 #[.int .i64 x] w fun e w' => e = .returned (.string (ba (Lib.decDigits x.toNat))) ∧ Below w.heap.size w w' := by
  refine (Tryz.strconv_Itoa x (by omega) (by omega) w hT).mono ?_
  rintro e w' ⟨rfl, k, os, rfl⟩
  refine ⟨?_, Lib.below_grow w.heap.size w (Nat.le_refl _) k os⟩
  obtain ⟨n, rfl⟩ : ∃ n : Nat, x = n := ⟨x.toNat, by omega⟩
  have e : dig (n : Int) = ba (Lib.decDigits n) := by
    rw [← ba_data (dig (n : Int)), dig_list]
  exact congrArg (fun z => Ending.returned (.string z)) e
/-- three integers at an address, readable in each later world -/
theorem ints3 {w : World} {a : Option Addr} {x y z : Int} (h : IntsAt w a 3 [x, y, z]) : ∃ g o, a = some ⟨g, o, none⟩ ∧ g < w.heap.size ∧ w.cell? ⟨g, o, none⟩ = some (.int .i64 x) ∧ w.cell? ⟨g, o + 1, none⟩ = some (.int .i64 y) ∧ w.cell? ⟨g, o + 2, none⟩ = some (.int .i64 z) := by
  obtain ⟨g, o, h1, h2, h3⟩ := h.some (by omega)
  exact ⟨g, o, h1, h2, h3 0 (by omega), h3 1 (by omega), h3 2 (by omega)⟩
set_option maxRecDepth 100000 in
set_option maxHeartbeats 2000000 in
theorem DoSet (w : World) (B D Bk G : Nat) (vs : List Value) (vl : Value) (s : BS) (hd : DeskAt w B D Bk G vs vl s) (hBw : B ≤ w.heap.size) (hG : Glob B w) (a : Option Addr) (cap : Nat) (i j n : Int) (hn : IntsAt w a 3 [i, j, n]) (hcap : 3 ≤ cap) :
    Calls Tryz.prog 42 #[.pointer (some ⟨D, 0, none⟩), .slice a 3 cap] w fun e w' => e = .returned (.tuple #[.string ⟨#[111, 107]⟩, errV (setErr i j n s.2.length)]) ∧ DeskDone w w' B D Bk vs vl (bSet s i j n) := by
  obtain ⟨g, o, rfl, hg, c0, c1, c2⟩ := ints3 hn
  obtain ⟨d0, -⟩ := hd.cell
  have hD := hd.lt
  have HS := Lib.hid (fun W (h : Below w.heap.size w W) => Set_any W B Bk G vs vl s (hd.book.call h) (Nat.le_trans hBw h.size) (hG.above hBw h).1 i j n)
  have HD := Lib.hid hd
  clear hn hd hG
  go_enter Tryz.func42, Tryz.ntmps42
  go_upto_region 1 with (fail)
  refine wp_region_quiet_any (C := Cls w.heap.size w) 13 (by kernel_rfl) (by kernel_rfl) Cls.start ?_
  simp only [List.take_succ_cons, List.take_zero]
  repeat
    (refine wpQuiet_step (fun K hK => ?_)
     go_simp
     first
       | (refine hK _ ?_; clear hK K)
       | (apply Exists.intro
          refine ⟨fun w' hC => ?_, hK _ ?_⟩
          · (obtain ⟨hr, hr2⟩ := hC.rules
             first
               | (fail)
               | (go_simp; done)
               | (go_simp; rfl))
          clear hK K))
  refine wpQuiet_nil ?_
  intro w1 hw1
  show wpAny _ _ _ _ (5 + 1) _ _ _
  refine wpAny_ready (fuel := 5) (rs := [13]) (by kernel_rfl) (by simp) ?_
  refine AllReady.cons rfl (fun K hK => ?_) AllReady.nil
  go_simp
  refine (HS.out _ hw1).mono ?_
  rintro e w2 ⟨rfl, hB2⟩
  refine hK _ _ ?_; clear hK K
  refine wpAny_ready (fuel := 4) (rs := [14]) (by kernel_rfl) (by simp) ?_
  refine AllReady.cons rfl (fun K hK => ?_) AllReady.nil
  go_simp
  refine (Done_any _ _).mono ?_
  rintro e w3 ⟨rfl, rfl⟩
  refine hK _ _ ?_; clear hK K
  refine wpAny_take (fuel := 3) (i := 15) (v := ?_) rfl (by kernel_rfl) (by kernel_rfl) (by kernel_rfl) (fun _ _ _ h => h) (Or.inl ⟨by rfl, ?_⟩) ?_
  rotate_left
  (intro w; go_simp; try rfl)
  refine wpAny_take (fuel := 2) (i := 16) (v := ?_) rfl (by kernel_rfl) (by kernel_rfl) (by kernel_rfl) (fun _ _ _ h => h) (Or.inl ⟨by rfl, ?_⟩) ?_
  rotate_left
  (intro w; go_simp; try rfl)
  refine wpAny_take (fuel := 1) (i := 17) (v := ?_) rfl (by kernel_rfl) (by kernel_rfl) (by kernel_rfl) (fun _ _ _ h => h) (Or.inl ⟨by rfl, ?_⟩) ?_
  rotate_left
  (intro w; go_simp; try rfl)
  refine wpAny_take (fuel := 0) (i := 18) (v := ?_) rfl (by kernel_rfl) (by kernel_rfl) (by kernel_rfl) (fun _ _ _ h => h) (Or.inl ⟨by rfl, ?_⟩) ?_
  rotate_left
  (intro w; go_simp; try rfl)
  refine wpAny_done (by kernel_rfl) ?_ _
  go_wp2_with fail
  go_ret2
  exact ⟨rfl, DeskDone.book HD.out hw1 hB2⟩
set_option maxRecDepth 100000 in
set_option maxHeartbeats 2000000 in
theorem DoAdd (w : World) (B D Bk G : Nat) (vs : List Value) (vl : Value) (s : BS) (hd : DeskAt w B D Bk G vs vl s) (hBw : B ≤ w.heap.size) (hG : Glob B w) (a : Option Addr) (cap : Nat) (i j n : Int) (hn : IntsAt w a 3 [i, j, n]) (hcap : 3 ≤ cap) :
    Calls Tryz.prog 43 #[.pointer (some ⟨D, 0, none⟩), .slice a 3 cap] w fun e w' => e = .returned (.tuple #[.string ⟨#[111, 107]⟩, errV (addErr i j n s.2.length)]) ∧ DeskDone w w' B D Bk vs vl (bAdd s i j n) := by
  obtain ⟨g, o, rfl, hg, c0, c1, c2⟩ := ints3 hn
  obtain ⟨d0, -⟩ := hd.cell
  have hD := hd.lt
  have HS := Lib.hid (fun W (h : Below w.heap.size w W) => Add_any W B Bk G vs vl s (hd.book.call h) (Nat.le_trans hBw h.size) (hG.above hBw h).1 i j n)
  have HD := Lib.hid hd
  clear hn hd hG
  go_enter Tryz.func43, Tryz.ntmps43
  go_upto_region 1 with (fail)
  refine wp_region_quiet_any (C := Cls w.heap.size w) 13 (by kernel_rfl) (by kernel_rfl) Cls.start ?_
  simp only [List.take_succ_cons, List.take_zero]
  repeat
    (refine wpQuiet_step (fun K hK => ?_)
     go_simp
     first
       | (refine hK _ ?_; clear hK K)
       | (apply Exists.intro
          refine ⟨fun w' hC => ?_, hK _ ?_⟩
          · (obtain ⟨hr, hr2⟩ := hC.rules
             first
               | (fail)
               | (go_simp; done)
               | (go_simp; rfl))
          clear hK K))
  refine wpQuiet_nil ?_
  intro w1 hw1
  show wpAny _ _ _ _ (5 + 1) _ _ _
  refine wpAny_ready (fuel := 5) (rs := [13]) (by kernel_rfl) (by simp) ?_
  refine AllReady.cons rfl (fun K hK => ?_) AllReady.nil
  go_simp
  refine (HS.out _ hw1).mono ?_
  rintro e w2 ⟨rfl, hB2⟩
  refine hK _ _ ?_; clear hK K
  refine wpAny_ready (fuel := 4) (rs := [14]) (by kernel_rfl) (by simp) ?_
  refine AllReady.cons rfl (fun K hK => ?_) AllReady.nil
  go_simp
  refine (Done_any _ _).mono ?_
  rintro e w3 ⟨rfl, rfl⟩
  refine hK _ _ ?_; clear hK K
  refine wpAny_take (fuel := 3) (i := 15) (v := ?_) rfl (by kernel_rfl) (by kernel_rfl) (by kernel_rfl) (fun _ _ _ h => h) (Or.inl ⟨by rfl, ?_⟩) ?_
  rotate_left
  (intro w; go_simp; try rfl)
  refine wpAny_take (fuel := 2) (i := 16) (v := ?_) rfl (by kernel_rfl) (by kernel_rfl) (by kernel_rfl) (fun _ _ _ h => h) (Or.inl ⟨by rfl, ?_⟩) ?_
  rotate_left
  (intro w; go_simp; try rfl)
  refine wpAny_take (fuel := 1) (i := 17) (v := ?_) rfl (by kernel_rfl) (by kernel_rfl) (by kernel_rfl) (fun _ _ _ h => h) (Or.inl ⟨by rfl, ?_⟩) ?_
  rotate_left
  (intro w; go_simp; try rfl)
  refine wpAny_take (fuel := 0) (i := 18) (v := ?_) rfl (by kernel_rfl) (by kernel_rfl) (by kernel_rfl) (fun _ _ _ h => h) (Or.inl ⟨by rfl, ?_⟩) ?_
  rotate_left
  (intro w; go_simp; try rfl)
  refine wpAny_done (by kernel_rfl) ?_ _
  go_wp2_with fail
  go_ret2
  exact ⟨rfl, DeskDone.book HD.out hw1 hB2⟩
set_option maxRecDepth 100000 in
set_option maxHeartbeats 2000000 in
theorem DoDet (w : World) (B D Bk G : Nat) (vs : List Value) (vl : Value) (s : BS) (hd : DeskAt w B D Bk G vs vl s) (hBw : B ≤ w.heap.size) (hG : Glob B w) (v : Value) :
    Calls Tryz.prog 45 #[.pointer (some ⟨D, 0, none⟩), v] w fun e w' => e = .returned (.tuple #[.string (ba (Lib.decDigits (G_det s.1).toNat)), .nilIface]) ∧ DeskDone w w' B D Bk vs vl s := by
  obtain ⟨d0, -⟩ := hd.cell
  have hgd : 0 ≤ G_det s.1 ∧ G_det s.1 < 9973 := by unfold G_det; omega
  have HDT := Lib.hid (Det_any w B Bk G vs vl s.1 s.2 hd.book)
  have HIT := Lib.hid (fun W (h : Below w.heap.size w W) => itoa_nat (G_det s.1) hgd.1 (by omega) W (hG.above hBw h).1.here)
  have HD := Lib.hid hd
  clear hd hG hgd
  generalize G_det s.1 = x at *
  go_enter Tryz.func45, Tryz.ntmps45
  go_wp2_with fail
  go_at_call 66
  refine HDT.out.mono ?_
  rintro e w1 ⟨rfl, hb1⟩
  go_wp2_with fail
  go_at_call 64
  refine (HIT.out _ hb1).mono ?_
  rintro e w2 ⟨rfl, hb2⟩
  go_wp2_with fail
  go_ret2
  exact ⟨rfl, DeskDone.same HD.out (below_trans hb1 hb2)⟩
theorem ints2 {w : World} {a : Option Addr} {x y : Int} (h : IntsAt w a 2 [x, y]) : ∃ g o, a = some ⟨g, o, none⟩ ∧ g < w.heap.size ∧ w.cell? ⟨g, o, none⟩ = some (.int .i64 x) ∧ w.cell? ⟨g, o + 1, none⟩ = some (.int .i64 y) := by
  obtain ⟨g, o, h1, h2, h3⟩ := h.some (by omega)
  exact ⟨g, o, h1, h2, h3 0 (by omega), h3 1 (by omega)⟩
set_option maxRecDepth 100000 in
set_option maxHeartbeats 2000000 in
theorem DoGet_bad (w : World) (v : Value) (a : Option Addr) (cap i j : Nat) (hn : IntsAt w a 2 [(i : Int), j]) (hcap : 2 ≤ cap) (hb : 3 < i ∨ 3 < j) :
    Calls Tryz.prog 44 #[v, .slice a 2 cap] w fun e w' => e = .returned (.tuple #[.string ⟨#[]⟩, errV 1]) ∧ Below w.heap.size w w' := by
  obtain ⟨g, o, rfl, hg, c0, c1⟩ := ints2 hn
  have hc : ((4 : Int) ≤ i) ∨ (¬ (4 : Int) ≤ i ∧ (4 : Int) ≤ j) := by omega
  have hev : errV 1 = .iface 80 (.int .i64 1) := rfl
  rw [hev]
  clear hn hb hev
  rcases hc with h1 | ⟨h1, h2⟩
  all_goals
    go_enter Tryz.func44, Tryz.ntmps44
    go_wp2_with fail
    go_ret2
    exact ⟨rfl, Below.refl _ _⟩
set_option maxRecDepth 100000 in
set_option maxHeartbeats 4000000 in
theorem DoGet_good (w : World) (B D Bk G : Nat) (vs : List Value) (vl : Value) (s : BS) (hd : DeskAt w B D Bk G vs vl s) (hBw : B ≤ w.heap.size) (hG : Glob B w) (a : Option Addr) (cap i j : Nat) (hn : IntsAt w a 2 [(i : Int), j]) (hcap : 2 ≤ cap) (hi : i ≤ 3) (hj : j ≤ 3) :
    Calls Tryz.prog 44 #[.pointer (some ⟨D, 0, none⟩), .slice a 2 cap] w fun e w' => e = .returned (.tuple #[.string (ba (Lib.decDigits (fn s.1 i j).toNat)), .nilIface]) ∧ Below w.heap.size w w' := by
  obtain ⟨g, o, rfl, hg, c0, c1⟩ := ints2 hn
  obtain ⟨d0, -⟩ := hd.cell
  have hD := hd.lt
  have hent := hd.book.ent i j (by omega) (by omega)
  have hsq := hd.book.sq
  have HRW := Lib.hid (fun W (h : Below w.heap.size w W) => Rows_any W B Bk G vs vl s.1 s.2 (hd.book.call h))
  have HIT := Lib.hid (fun W (h : Below w.heap.size w W) => itoa_nat (fn s.1 i j) hent.1 (by omega) W (hG.above hBw h).1.here)
  have HCE := Lib.hid (fun (W : World) A G2 vs2 (ho : OwnRowsV W A (.slice (some ⟨G2, 0, none⟩) 4 4) vs2 s.1) => (show ∃ b rc, W.cell? ⟨G2, i, none⟩ = some (.slice (some ⟨b, 0, none⟩) 4 rc) ∧ W.cell? ⟨b, j, none⟩ = some (.int .i64 (fn s.1 i j)) from by
    obtain ⟨b, rc, h1, -, -, -, -, -, h2, -⟩ := ho.at hsq (i := i) (j := j) (by omega) (by omega)
    exact ⟨b, rc, h1, h2⟩))
  have HSS := Lib.hid (fun W (h : Below w.heap.size w W) => (show W.cell? ⟨D, 0, none⟩ = some (.pointer (some ⟨Bk, 0, none⟩)) ∧ W.cell? ⟨g, o, none⟩ = some (.int .i64 i) ∧ W.cell? ⟨g, o + 1, none⟩ = some (.int .i64 j) from
    ⟨(h.cell (p := ⟨D, 0, none⟩) hD).trans d0, (h.cell (p := ⟨g, o, none⟩) hg).trans c0, (h.cell (p := ⟨g, o + 1, none⟩) hg).trans c1⟩))
  have hi0 : (0 : Int) ≤ i := by omega
  have hj0 : (0 : Int) ≤ j := by omega
  have hi4 : (i : Int) < 4 := by omega
  have hj4 : (j : Int) < 4 := by omega
  clear hn hd hG hsq hent
  generalize fn s.1 i j = x at *
  go_enter Tryz.func44, Tryz.ntmps44
  go_upto_region 3 with (fail)
  refine wp_region_held_drew (S := fun w' => w'.cell? ⟨D, 0, none⟩ = some (.pointer (some ⟨Bk, 0, none⟩)) ∧ w'.cell? ⟨g, o, none⟩ = some (.int .i64 i) ∧ w'.cell? ⟨g, o + 1, none⟩ = some (.int .i64 j)) (by kernel_rfl) (HSS.out _ Cls.start) (fun hHeld => ?_)
  refine wpAnyH_take (i := 0) (v := ?_) rfl (by kernel_rfl) (by kernel_rfl) (by kernel_rfl) (fun _ _ _ h => h) (Or.inl ⟨by rfl, ?_⟩) (by assumption) ?_
  rotate_left
  · (intro w hSw; (try dsimp only at hSw); go_simp; try with_reducible rfl)
  rotate_left
  (try simp only [Act.put, List.setIfInBounds_toArray, List.set_cons_zero, List.set_cons_succ])
  refine wpAnyH_take (i := 1) (v := ?_) rfl (by kernel_rfl) (by kernel_rfl) (by kernel_rfl) (fun _ _ _ h => h) (Or.inl ⟨by rfl, ?_⟩) (by assumption) ?_
  rotate_left
  · (intro w hSw; (try dsimp only at hSw); go_simp; try with_reducible rfl)
  rotate_left
  (try simp only [Act.put, List.setIfInBounds_toArray, List.set_cons_zero, List.set_cons_succ])
  refine wpAnyH_take (i := 2) (v := ?_) rfl (by kernel_rfl) (by kernel_rfl) (by kernel_rfl) (fun _ _ _ h => h) (Or.inl ⟨by rfl, ?_⟩) (by assumption) ?_
  rotate_left
  · (intro w hSw; (try dsimp only at hSw); go_simp; try with_reducible rfl)
  rotate_left
  (try simp only [Act.put, List.setIfInBounds_toArray, List.set_cons_zero, List.set_cons_succ])
  refine wpAnyH_take (i := 3) (v := ?_) rfl (by kernel_rfl) (by kernel_rfl) (by kernel_rfl) (fun _ _ _ h => h) (Or.inl ⟨by rfl, ?_⟩) (by assumption) ?_
  rotate_left
  · (intro w hSw; (try dsimp only at hSw); go_simp; try with_reducible rfl)
  rotate_left
  (try simp only [Act.put, List.setIfInBounds_toArray, List.set_cons_zero, List.set_cons_succ])
  refine wpAnyH_take (i := 5) (v := ?_) rfl (by kernel_rfl) (by kernel_rfl) (by kernel_rfl) (fun _ _ _ h => h) (Or.inl ⟨by rfl, ?_⟩) (by assumption) ?_
  rotate_left
  · (intro w hSw; (try dsimp only at hSw); go_simp; try with_reducible rfl)
  rotate_left
  (try simp only [Act.put, List.setIfInBounds_toArray, List.set_cons_zero, List.set_cons_succ])
  refine wpAnyH_take (i := 6) (v := ?_) rfl (by kernel_rfl) (by kernel_rfl) (by kernel_rfl) (fun _ _ _ h => h) (Or.inl ⟨by rfl, ?_⟩) (by assumption) ?_
  rotate_left
  · (intro w hSw; (try dsimp only at hSw); go_simp; try with_reducible rfl)
  rotate_left
  (try simp only [Act.put, List.setIfInBounds_toArray, List.set_cons_zero, List.set_cons_succ])
  refine wpAnyH_take (i := 7) (v := ?_) rfl (by kernel_rfl) (by kernel_rfl) (by kernel_rfl) (fun _ _ _ h => h) (Or.inl ⟨by rfl, ?_⟩) (by assumption) ?_
  rotate_left
  · (intro w hSw; (try dsimp only at hSw); go_simp; try with_reducible rfl)
  rotate_left
  (try simp only [Act.put, List.setIfInBounds_toArray, List.set_cons_zero, List.set_cons_succ])
  refine wpAnyH_take (i := 10) (v := ?_) rfl (by kernel_rfl) (by kernel_rfl) (by kernel_rfl) (fun _ _ _ h => h) (Or.inl ⟨by rfl, ?_⟩) (by assumption) ?_
  rotate_left
  · (intro w hSw; (try dsimp only at hSw); go_simp; try with_reducible rfl)
  rotate_left
  (try simp only [Act.put, List.setIfInBounds_toArray, List.set_cons_zero, List.set_cons_succ])
  refine wpAnyH_take (i := 11) (v := ?_) rfl (by kernel_rfl) (by kernel_rfl) (by kernel_rfl) (fun _ _ _ h => h) (Or.inl ⟨by rfl, ?_⟩) (by assumption) ?_
  rotate_left
  · (intro w hSw; (try dsimp only at hSw); go_simp; try with_reducible rfl)
  rotate_left
  (try simp only [Act.put, List.setIfInBounds_toArray, List.set_cons_zero, List.set_cons_succ])
  refine wpAnyH_take (i := 12) (v := ?_) rfl (by kernel_rfl) (by kernel_rfl) (by kernel_rfl) (fun _ _ _ h => h) (Or.inl ⟨by rfl, ?_⟩) (by assumption) ?_
  rotate_left
  · (intro w hSw; (try dsimp only at hSw); go_simp; try with_reducible rfl)
  rotate_left
  (try simp only [Act.put, List.setIfInBounds_toArray, List.set_cons_zero, List.set_cons_succ])
  refine wpAnyH_ready (rs := [4]) (by kernel_rfl) (by simp) ?_
  refine AllReadyH.cons rfl (fun K hK => ?_) AllReadyH.nil
  go_simp
  go_at_call 65
  refine (HRW.out _ Cls.start).mono ?_
  rintro e w2 ⟨⟨G2, vs2, rfl, ho⟩, hb2⟩
  obtain ⟨b, rc, q1, q2⟩ := HCE.out _ _ _ _ ho
  have d2 := below_trans Cls.start hb2
  (try go_simp)
  refine hK.out _ _ (HSS.out _ d2) (fun hHeld => ?_)
  clear hK K
  (try simp only [Act.put, List.setIfInBounds_toArray, List.set_cons_zero, List.set_cons_succ])
  refine wpAnyH_take (i := 8) (v := ?_) rfl (by kernel_rfl) (by kernel_rfl) (by kernel_rfl) (fun _ _ _ h => h) (Or.inl ⟨by rfl, ?_⟩) (by assumption) ?_
  rotate_left
  · (intro w hSw; (try dsimp only at hSw); go_simp; try with_reducible rfl)
  rotate_left
  (try simp only [Act.put, List.setIfInBounds_toArray, List.set_cons_zero, List.set_cons_succ])
  refine wpAnyH_ready (rs := [9]) (by kernel_rfl) (by simp) ?_
  refine AllReadyH.cons rfl (fun K hK => ?_) AllReadyH.nil
  go_simp
  (try go_simp)
  refine hK.out _ _ (HSS.out _ d2) (fun hHeld => ?_)
  clear hK K
  (try simp only [Act.put, List.setIfInBounds_toArray, List.set_cons_zero, List.set_cons_succ])
  refine wpAnyH_take (i := 13) (v := ?_) rfl (by kernel_rfl) (by kernel_rfl) (by kernel_rfl) (fun _ _ _ h => h) (Or.inl ⟨by rfl, ?_⟩) (by assumption) ?_
  rotate_left
  · (intro w hSw; (try dsimp only at hSw); go_simp; try with_reducible rfl)
  rotate_left
  (try simp only [Act.put, List.setIfInBounds_toArray, List.set_cons_zero, List.set_cons_succ])
  refine wpAnyH_ready (rs := [14]) (by kernel_rfl) (by simp) ?_
  refine AllReadyH.cons rfl (fun K hK => ?_) AllReadyH.nil
  go_simp
  (try go_simp)
  refine hK.out _ _ (HSS.out _ d2) (fun hHeld => ?_)
  clear hK K
  (try simp only [Act.put, List.setIfInBounds_toArray, List.set_cons_zero, List.set_cons_succ])
  refine wpAnyH_ready (rs := [15]) (by kernel_rfl) (by simp) ?_
  refine AllReadyH.cons rfl (fun K hK => ?_) AllReadyH.nil
  go_simp
  go_at_call 64
  refine (HIT.out _ d2).mono ?_
  rintro e w3 ⟨rfl, hb3⟩
  have d3 := below_trans d2 hb3
  (try go_simp)
  refine hK.out _ _ (HSS.out _ d3) (fun hHeld => ?_)
  clear hK K
  (try simp only [Act.put, List.setIfInBounds_toArray, List.set_cons_zero, List.set_cons_succ])
  refine wpAnyH_take (i := 16) (v := ?_) rfl (by kernel_rfl) (by kernel_rfl) (by kernel_rfl) (fun _ _ _ h => h) (Or.inl ⟨by rfl, ?_⟩) (by assumption) ?_
  rotate_left
  · (intro w hSw; (try dsimp only at hSw); go_simp; try with_reducible rfl)
  rotate_left
  (try simp only [Act.put, List.setIfInBounds_toArray, List.set_cons_zero, List.set_cons_succ])
  refine wpAnyH_take (i := 17) (v := ?_) rfl (by kernel_rfl) (by kernel_rfl) (by kernel_rfl) (fun _ _ _ h => h) (Or.inl ⟨by rfl, ?_⟩) (by assumption) ?_
  rotate_left
  · (intro w hSw; (try dsimp only at hSw); go_simp; try with_reducible rfl)
  rotate_left
  (try simp only [Act.put, List.setIfInBounds_toArray, List.set_cons_zero, List.set_cons_succ])
  refine wpAnyH_done (by kernel_rfl) ?_ _
  go_wp2_with fail
  go_ret2
  exact ⟨rfl, d3⟩
end Go.Proofs.YtokneabcgmjhdaaGreatDoor
