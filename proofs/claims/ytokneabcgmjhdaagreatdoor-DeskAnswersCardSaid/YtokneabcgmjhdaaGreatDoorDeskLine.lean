/- Contract of desk's line. -/
import Derived.Test.YtokneabcgmjhdaaGreatDoorDeskB
import Derived.Test.YtokneabcgmjhdaaGreatDoorDeskCrash
import Derived.Deep.RegionHeld3
import Derived.Deep.LoopGhost
namespace Go.Proofs.YtokneabcgmjhdaaGreatDoor
open Go.RowKit
set_option linter.unusedVariables false
set_option linter.unusedSimpArgs false

abbrev cmdBox (m : Int) (f : Value) : Obj := .cells #[.int .i64 m, f] 58 (0, 0)
set_option maxRecDepth 100000 in
set_option maxHeartbeats 8000000 in
theorem DLine_any (x : ByteArray) (w : World) (B D Bk G : Nat) (vs : List Value) (vl : Value) (s : BS) (hd : DeskAt w B D Bk G vs vl s) (hok : DeskOk s) (hBw : B ≤ w.heap.size) (hG : Glob B w) (hH : ∀ W, Below B w W → Handle W) (hx : x.size ≤ 3000) :
    Calls Tryz.prog 19 #[.pointer (some ⟨D, 0, none⟩), .string x] w fun e w' => e = .returned (.string (ba (answerE x.data.toList s).1)) ∧ DeskDone w w' B D Bk vs vl (answerE x.data.toList s).2 := by
  obtain ⟨ii, hi, hz0, hz1, hz2⟩ := info_parts info_int
  rw [answer_ansP]
  have HSP := Lib.hid (Split_any x 32 B w hG (by omega))
  obtain ⟨ps, hps⟩ : ∃ ps, ps = cutL 32 x.data.toList := ⟨_, rfl⟩
  have HPZ := Lib.hid (fun j => (show (ba (ps.getD j [])).size ≤ 100000 from by rw [hps]; have := piece_size (c := 32) (l := x.data.toList) j; rw [size_list] at this; omega))
  have hpl : ps.length ≤ 3001 := by
    rw [hps, cutL_len]
    have := List.count_le_length (a := (32 : UInt8)) (l := x.data.toList)
    rw [size_list] at this
    omega
  have hne : ps ≠ [] := by rw [hps]; exact cutL_ne _ _
  rw [← hps] at HSP ⊢
  obtain ⟨n, hn⟩ : ∃ n, ps.length = n + 1 := ⟨ps.length - 1, by have := List.length_pos_iff.2 hne; omega⟩
  have hn3 : n ≤ 3000 := by omega
  rw [hn] at HSP
  obtain ⟨m, f, b, hcm, hci⟩ := cmd_is (ps.getD 0 [])
  have hm3 := hci.bd
  have hsf : ∀ (W : World) (a : Addr), (store a f).run Tryz.prog W = stored Tryz.prog W a f .plain := fun W a => run_store _ W a f .plain hci.one
  have HNO := Lib.hid (fun h => hci.no hne h s)
  have HBAD := Lib.hid (fun h => ansP_bad hn s h)
  have HGO := Lib.hid (fun h => ansP_good hn s h)
  obtain ⟨w0, hw0⟩ : ∃ w0, w0 = ps.getD 0 [] := ⟨_, rfl⟩
  rw [← hw0] at hcm
  have hCI : CmdIs w0 m f b := by rw [hw0]; exact hci
  have HCI := Lib.hid hCI
  have HPP := Lib.hid (fun (W : World) (h : Below (w.alloc (piecesO ps)).heap.size (w.alloc (piecesO ps)) W) k (hk : k < n + 1) => (show W.cell? ⟨w.heap.size, k, none⟩ = some (.string (ba (ps.getD k []))) from by
    rw [h.cell (p := ⟨w.heap.size, k, none⟩) (by simp)]
    exact pieces_at (heap_alloc_new _ _) (by omega)))
  have HW0 := Lib.hid hw0
  have HN := Lib.hid hn
  have HD := Lib.hid hd
  have HOK := Lib.hid hok
  have HG := Lib.hid hG
  have HH := Lib.hid hH
  have HLK := Lib.hid (fun (W : World) (r : Nat) (h : W.heap[r]? = some (cmdO 5)) => (show (Instr.lookup 60 (.map (some r)) (.string (ba w0)) true).run Tryz.prog W = .ok (.tuple #[.agg #[.int .i64 (m : Nat), f], .bool b]) W from by rw [run_look h, hcm]))
  have HLB := Lib.hid (fun (w2 : World) (r : Nat) (h : w2.heap[r]? = some (cmdO 5)) => (show (Instr.lookup 60 (.map (some r)) (.string (ba w0)) true).run Tryz.prog ((w2.alloc (cmdBox 0 .nilFunc)).drew) = .ok (.tuple #[.agg #[.int .i64 (m : Nat), f], .bool b]) ((w2.alloc (cmdBox 0 .nilFunc)).drew) from
    HLK.out _ r ((heap_alloc_old w2 _ (Array.getElem?_eq_some_iff.1 h).1).trans h)))
  have HLB2 := Lib.hid (fun (w2 : World) (r : Nat) (h : w2.heap[r]? = some (cmdO 5)) => (show (Instr.lookup 60 (.map (some r)) (.string (ba w0)) true).run Tryz.prog (w2.alloc (cmdBox 0 .nilFunc)) = .ok (.tuple #[.agg #[.int .i64 (m : Nat), f], .bool b]) (w2.alloc (cmdBox 0 .nilFunc)) from
    HLK.out _ r ((heap_alloc_old w2 _ (Array.getElem?_eq_some_iff.1 h).1).trans h)))
  clear hps hne hn hcm hci hw0 hCI hd hok hG hH hpl
  go_enter Tryz.func19, Tryz.ntmps19
  go_wp2_with fail
  go_at_call 16
  refine HSP.out.mono ?_
  rintro e W1 ⟨rfl, hW1⟩
  have hb1 : Below w.heap.size w W1 := by rw [hW1]; exact (Below.refl _ _).alloc (Nat.le_refl _) _
  have HP1 := Lib.hid (fun (W : World) (h : Below W1.heap.size W1 W) k (hk : k < n + 1) => HPP.out W (by rw [← hW1]; exact h) k hk)
  have hc0 := fun W h => HP1.out W h 0 (by omega)
  rw [← HW0.out] at hc0
  have HC0 := Lib.hid hc0
  have hs1 := hb1.size
  clear hW1 hc0
  go_upto_region 2 with (fail)
  have hAL : ∀ o, Below W1.heap.size W1 ((W1.alloc o).drew) := fun o => ((Below.refl _ _).alloc (Nat.le_refl _) o).trans Cls.start
  refine wp_region_held_drew (S := fun w' => w'.cell? ⟨w.heap.size, 0, none⟩ = some (.string (ba w0))) (by kernel_rfl) (HC0.out _ Cls.start) (fun hHeld => ?_)
  refine wpAnyH_take (i := 1) (v := ?_) rfl (by kernel_rfl) (by kernel_rfl) (by kernel_rfl) (fun _ _ _ h => h) (Or.inl ⟨by rfl, ?_⟩) (by assumption) ?_
  rotate_left
  · (intro w hSw; (try dsimp only at hSw); go_simp; try with_reducible rfl)
  rotate_left
  (try simp only [Act.put, List.setIfInBounds_toArray, List.set_cons_zero, List.set_cons_succ])
  refine wpAnyH_take (i := 2) (v := ?_) rfl (by kernel_rfl) (by kernel_rfl) (by kernel_rfl) (fun _ _ _ h => h) (Or.inl ⟨by rfl, ?_⟩) (by assumption) ?_
  rotate_left
  · (intro w hSw; (try dsimp only at hSw); go_simp; try with_reducible rfl)
  rotate_left
  (try simp only [Act.put, List.setIfInBounds_toArray, List.set_cons_zero, List.set_cons_succ])
  refine wpAnyH_take (i := 3) (v := ?_) rfl (by kernel_rfl) (by kernel_rfl) (by kernel_rfl) (fun _ _ _ h => h) (Or.inl ⟨by rfl, ?_⟩) (by assumption) ?_
  rotate_left
  · (intro w hSw; (try dsimp only at hSw); go_simp; try with_reducible rfl)
  rotate_left
  (try simp only [Act.put, List.setIfInBounds_toArray, List.set_cons_zero, List.set_cons_succ])
  refine wpAnyH_ready (rs := [0, 8]) (by kernel_rfl) (by simp) ?_
  refine AllReadyH.cons rfl (fun K hK => ?_) (AllReadyH.cons rfl (fun K hK => ?_) AllReadyH.nil)
  · go_simp
    go_at_call 27
    refine (Commands_any _).mono ?_
    rintro e w2 ⟨r, rfl, hr, hmo, hb2⟩
    have d1 : Below W1.heap.size W1 w2 := below_trans (by exact Cls.start) hb2
    have k1 := HLK.out _ _ hmo
    have k2 := HLB2.out _ _ hmo
    have d2 : Below W1.heap.size W1 (w2.alloc (cmdBox 0 .nilFunc)) := d1.alloc d1.size _
    have d3 : Below W1.heap.size W1 (w2.alloc (cmdBox m f)) := d1.alloc d1.size _
    have hbx7 : (w2.alloc (cmdBox m f)).heap[w2.heap.size]? = some (cmdBox m f) := heap_alloc_new _ _
    (try go_simp)
    refine hK.out _ _ (HC0.out _ d1) (fun hHeld => ?_)
    clear hK K
    (try simp only [Act.put, List.setIfInBounds_toArray, List.set_cons_zero, List.set_cons_succ])
    refine wpAnyH_ready (rs := [4, 8]) (by kernel_rfl) (by simp) ?_
    refine AllReadyH.cons rfl (fun K hK => ?_) (AllReadyH.cons rfl (fun K hK => ?_) AllReadyH.nil)
    · go_simp
      refine hK.out _ _ (HC0.out _ d1) (fun hHeld => ?_)
      clear hK K
      (try simp only [Act.put, List.setIfInBounds_toArray, List.set_cons_zero, List.set_cons_succ])
      refine wpAnyH_take (i := 5) (v := ?_) rfl (by kernel_rfl) (by kernel_rfl) (by kernel_rfl) (fun _ _ _ h => h) (Or.inl ⟨by rfl, ?_⟩) (by assumption) ?_
      rotate_left
      · (intro w hSw; (try dsimp only at hSw); go_simp; try with_reducible rfl)
      rotate_left
      (try simp only [Act.put, List.setIfInBounds_toArray, List.set_cons_zero, List.set_cons_succ])
      refine wpAnyH_take (i := 6) (v := ?_) rfl (by kernel_rfl) (by kernel_rfl) (by kernel_rfl) (fun _ _ _ h => h) (Or.inl ⟨by rfl, ?_⟩) (by assumption) ?_
      rotate_left
      · (intro w hSw; (try dsimp only at hSw); go_simp; try with_reducible rfl)
      rotate_left
      (try simp only [Act.put, List.setIfInBounds_toArray, List.set_cons_zero, List.set_cons_succ])
      refine wpAnyH_take (i := 7) (v := ?_) rfl (by kernel_rfl) (by kernel_rfl) (by kernel_rfl) (fun _ _ _ h => h) (Or.inl ⟨by rfl, ?_⟩) (by assumption) ?_
      rotate_left
      · (intro w hSw; (try dsimp only at hSw); go_simp; try with_reducible rfl)
      rotate_left
      (try simp only [Act.put, List.setIfInBounds_toArray, List.set_cons_zero, List.set_cons_succ])
      refine wpAnyH_ready (rs := [8]) (by kernel_rfl) (by simp) ?_
      refine AllReadyH.cons rfl (fun K hK => ?_) AllReadyH.nil
      go_simp
      (try go_simp)
      refine hK.out _ _ (HC0.out _ d2) (fun hHeld => ?_)
      clear hK K
      (try simp only [Act.put, List.setIfInBounds_toArray, List.set_cons_zero, List.set_cons_succ])
      refine wpAnyH_ready (rs := [9]) (by kernel_rfl) (by simp) ?_
      refine AllReadyH.cons rfl (fun K hK => ?_) AllReadyH.nil
      go_simp
      (try go_simp)
      refine hK.out _ _ (HC0.out _ d3) (fun hHeld => ?_)
      clear hK K
      (try simp only [Act.put, List.setIfInBounds_toArray, List.set_cons_zero, List.set_cons_succ])
      refine wpAnyH_take (i := 10) (v := ?_) rfl (by kernel_rfl) (by kernel_rfl) (by kernel_rfl) (fun _ _ _ h => h) (Or.inl ⟨by rfl, ?_⟩) (by assumption) ?_
      rotate_left
      · (intro w hSw; (try dsimp only at hSw); go_simp; try with_reducible rfl)
      rotate_left
      (try simp only [Act.put, List.setIfInBounds_toArray, List.set_cons_zero, List.set_cons_succ])
      refine wpAnyH_done (by kernel_rfl) ?_ _
      obtain ⟨c, hc⟩ : ∃ c, c = w2.heap.size := ⟨_, rfl⟩
      rw [← hc] at hbx7 ⊢
      generalize w2.alloc (cmdBox m f) = W7 at *
      clear hc k1 k2 d1 d2 hmo hb2 hr
      have hb7 : Below w.heap.size w W7 := hb1.trans (d3.mono hs1)
      have c0 : W7.cell? ⟨c, 0, none⟩ = some (.int .i64 m) := by simp [World.cell?, hbx7]
      have c1 : W7.cell? ⟨c, 1, none⟩ = some f := by simp [World.cell?, hbx7]
      have hcl : c < W7.heap.size := (Array.getElem?_eq_some_iff.1 hbx7).1
      have HC1 := Lib.hid (fun W (h : Below W7.heap.size W7 W) => (h.cell (p := ⟨c, 1, none⟩) hcl).trans c1)
      have HP7 := Lib.hid (fun W (h : Below W7.heap.size W7 W) k (hk : k < n + 1) => HP1.out W (below_trans d3 h) k hk)
      have HB7 := Lib.hid hb7
      have hs7 := hb7.size
      clear hbx7
      by_cases hbad : b = false ∨ n ≠ m
      · have HR := Lib.hid (HNO.out (by rcases hbad with h | h; exact Or.inl h; exact Or.inr (by rw [HN.out]; omega)))
        have hbb : b = false ∨ (b = true ∧ (((n : Int) + 1) != (m : Int) + 1) = true) := by
          cases b with
          | false => exact Or.inl rfl
          | true =>
            refine Or.inr ⟨rfl, ?_⟩
            rcases hbad with h | h
            · cases h
            · rw [bne_iff_ne]; omega
        clear hbad HNO HBAD HGO
        rcases hbb with rfl | ⟨rfl, hbb⟩
        all_goals
          go_wp2_with fail
          go_ret
          rw [HR.out]
          exact ⟨rfl, DeskDone.same HD.out hb7⟩
      · have hb : b = true := by cases b with | false => exact absurd (Or.inl rfl) hbad | true => rfl
        have hnm : n = m := by by_cases h : n = m; exact h; exact absurd (Or.inr h) hbad
        subst hb
        subst hnm
        have hbb : (((n : Int) + 1) != (n : Int) + 1) = false := by simp
        clear hbad HNO
        by_cases hn0 : n = 0
        · subst hn0
          have hfd : f = .func (.func 45) #[] #[] ∧ w0 = kDet := by
            have h := HCI.out
            generalize hz : (0 : Nat) = z at h
            generalize ht : true = tt at h
            cases h <;> first | exact ⟨rfl, rfl⟩ | (cases hz; done) | (cases ht; done)
          obtain ⟨rfl, rfl⟩ := hfd
          go_wp2_with fail
          go_loopg [8, 38] 2 (fun g lv iv wr => 1 < g ∧ lv = .slice none 0 0 ∧ iv = .int .i64 0 ∧ wr = W7)
          case atStart => exact ⟨by omega, rfl, rfl, rfl⟩
          case round =>
            obtain ⟨hg, rfl, rfl, rfl⟩ := hrel
            have hAN := (HGO.out (fun j hj => by omega)).trans (by rw [← HW0.out])
            have hAN2 : ansP ps s = (Lib.decDigits (G_det s.1).toNat, s) := hAN.trans ((cmdE_0 kDet s).trans (if_pos rfl))
            have HDO := Lib.hid (DoDet wr B D Bk G vs vl s (HD.out.call hb7) (Nat.le_trans hBw hs7) (HG.out.above hBw hb7) (.slice none 0 0))
            have HAN := Lib.hid hAN2
            clear hAN hAN2
            generalize Lib.decDigits (G_det s.1).toNat = z at *
            go_wp2_with fail
            go_at_call 45
            refine HDO.out.mono ?_
            rintro e w5 ⟨rfl, hDD⟩
            have HDD := Lib.hid hDD
            clear hDD
            go_wp2_with fail
            go_ret
            rw [HAN.out]
            exact ⟨rfl, DeskDone.since hb7 HDD.out⟩
        · have hn1 : 1 ≤ n := by omega
          have hni : (1 : Int) ≤ n := by omega
          go_wp2_with fail
          go_loopg [8, 38] (n + 1) (fun g lv iv wr => ∃ t : Nat, t ≤ n ∧ n - t < g ∧ iv = .int .i64 t ∧ OwnInts wr W7.heap.size lv (nvI ps t) ∧ (∀ j, j < t → (num7 (ps.getD (j + 1) [])).isSome = true) ∧ Below W7.heap.size W7 wr)
          case atStart => exact ⟨0, by omega, by omega, rfl, World.ownsRow_nil _ _ _ _, fun j hj => by omega, Below.refl _ _⟩
          case round =>
            obtain ⟨t, ht, hg, rfl, hown, hsome, hbel⟩ := hrel
            have hbels := hbel.size
            have hbW : Below w.heap.size w wr := below_trans HB7.out hbel
            have hBwr : B ≤ wr.heap.size := Nat.le_trans hBw hbW.size
            obtain ⟨la, ln, lc, rfl⟩ := OwnInts.isSlice hown
            by_cases htn : t < n
            · have q1 := HP7.out wr hbel (t + 1) (by omega)
              have hti : (t : Int) < n := by omega
              have ht0 : (0 : Int) ≤ t := by omega
              have hNU := DNumber_any (ba (ps.getD (t + 1) [])) B wr (HG.out.above hBw hbW) hBwr (HPZ.out _)
              rw [ba_toList] at hNU
              have hpv : nv ps t = (num7 (ps.getD (t + 1) [])).getD 0 := rfl
              have hbadr := fun h => HBAD.out ⟨t, htn, h⟩
              generalize hpc2 : ps.getD (t + 1) [] = pcz at q1 hNU hpv hbadr
              rw [Nat.add_comm t 1] at q1
              have HPC2 := Lib.hid hpc2
              have HBR := Lib.hid hbadr
              have HOW := Lib.hid hown
              have HSM := Lib.hid hsome
              have HPV := Lib.hid hpv
              clear hpc2 hbadr hown hsome hpv
              go_wp2_with fail
              go_at_call 28
              refine hNU.mono ?_
              rintro e W3 ⟨⟨v, rfl, hv⟩, hb3⟩
              cases hn : num7 pcz with
              | none =>
                have HRE := Lib.hid (HBR.out hn)
                clear hn hv
                go_wp2_with fail
                go_ret
                rw [HRE.out]
                exact ⟨rfl, DeskDone.same HD.out (below_trans hbW hb3)⟩
              | some z =>
                obtain rfl := hv z hn
                have hpvz : nv ps t = z := by rw [HPV.out, hn]; rfl
                have HSZ := Lib.hid (show (num7 pcz).isSome = true from by rw [hn]; rfl)
                have HPZV := Lib.hid hpvz
                have HOW3 := Lib.hid (HOW.out.call hb3)
                have hb3s := hb3.size
                clear hn hv hpvz
                go_wp2_with (at_builtin; refine wpList_append_own1 (o := ⟨some 52, _, _, _, _, _⟩) rfl _ _ 62 rfl W7.heap.size 3 ii (.int .i64 0) 8 Tryz.underlying62 hi hz0 hz1 hz2 rfl _ (nvI ps t).length ((nvI ps t).map (Value.int .i64)) rfl (World.ownsRow.alloc HOW3.out _) (some ⟨W3.heap.size, 0, none⟩) 1 1 [.int .i64 z] rfl rfl (fun h => by cases h) (one_new _ _ _) (one_int _ _) (by rw [nvI_len]; unfold maxLen; omega) (by rw [nvI_len]; omega) (le_alloc (Nat.le_trans hbels hb3s) _) ?_; intro v4 w4 hown4 hgrow4)
                have hs4 := OwnInts.snoc rfl hown4
                rw [← HPZV.out, ← nvI_snoc] at hs4
                have hb4 := own_grow (below_trans hbel hb3) HOW3.out hgrow4
                go_roundg (n - t)
                case measure => omega
                case rel =>
                  refine ⟨t + 1, by omega, by omega, by go_num, hs4, fun j hj => ?_, hb4⟩
                  by_cases hjt : j < t
                  · exact HSM.out j hjt
                  · obtain rfl : j = t := by omega
                    rw [HPC2.out]; exact HSZ.out
            · obtain rfl : t = n := by omega
              have c1' := HC1.out wr hbel
              have hAN := (HGO.out hsome).trans (by rw [← HW0.out])
              have hci := HCI.out
              clear c1 hsome HBAD HGO
              cases hci with
              | det => omega
              | set =>
                obtain ⟨a', cap', e, hle1, -, -, hia⟩ := hown.shape
                simp only [Value.slice.injEq] at e
                obtain ⟨rfl, e2, rfl⟩ := e
                rw [nvI_len] at e2 hle1
                subst e2
                have hia3 : IntsAt wr la 3 [((nv ps 0 : Nat) : Int), ((nv ps 1 : Nat) : Int), ((nv ps 2 : Nat) : Int)] := hia
                have hDo := DoSet wr B D Bk G vs vl s (HD.out.call hbW) hBwr (HG.out.above hBw hbW) la lc _ _ _ hia3 hle1
                have hAN2 : ansP ps s = (saidL (setErr (nv ps 0) (nv ps 1) (nv ps 2) s.2.length), bSet s (nv ps 0) (nv ps 1) (nv ps 2)) := hAN.trans ((cmdE_3 kSet (nv ps 0) (nv ps 1) (nv ps 2) s).trans (if_pos rfl))
                have hEb := setErr_bd (nv ps 0) (nv ps 1) (nv ps 2) s.2.length
                clear hAN
                generalize setErr (nv ps 0) (nv ps 1) (nv ps 2) s.2.length = E at *
                generalize bSet s (nv ps 0) (nv ps 1) (nv ps 2) = s2 at *
                have HAN := Lib.hid hAN2
                have HDO := Lib.hid hDo
                clear hAN2 hDo hia hia3 hown
                go_wp2_with fail
                go_at_call 42
                refine HDO.out.mono ?_
                rintro e w5 ⟨rfl, hDD⟩
                by_cases hE : E = 0
                · subst hE
                  rw [errV_zero]
                  have HDD := Lib.hid hDD
                  clear hDD hEb
                  go_wp2_with fail
                  go_ret
                  rw [HAN.out]
                  exact ⟨rfl, DeskDone.since hbW HDD.out⟩
                · rw [errV_pos hE]
                  have HS := Lib.hid (show saidL E = nameL E from if_neg hE)
                  have HNM := Lib.hid (Name_any E (by omega) hEb.2 w5 (HH.out w5 ((DeskDone.since hbW hDD).2.below HD.out)))
                  have HDD := Lib.hid hDD
                  clear hDD hEb hE
                  go_wp2_with fail
                  go_at_call 29
                  refine HNM.out.mono ?_
                  rintro e w6 ⟨rfl, hb6⟩
                  go_wp2_with fail
                  go_ret
                  rw [HAN.out]
                  simp only [HS.out]
                  exact ⟨rfl, DeskDone.later (DeskDone.since hbW HDD.out) hb6⟩
              | add =>
                obtain ⟨a', cap', e, hle1, -, -, hia⟩ := hown.shape
                simp only [Value.slice.injEq] at e
                obtain ⟨rfl, e2, rfl⟩ := e
                rw [nvI_len] at e2 hle1
                subst e2
                have hia3 : IntsAt wr la 3 [((nv ps 0 : Nat) : Int), ((nv ps 1 : Nat) : Int), ((nv ps 2 : Nat) : Int)] := hia
                have hDo := DoAdd wr B D Bk G vs vl s (HD.out.call hbW) hBwr (HG.out.above hBw hbW) la lc _ _ _ hia3 hle1
                have hAN2 : ansP ps s = (saidL (addErr (nv ps 0) (nv ps 1) (nv ps 2) s.2.length), bAdd s (nv ps 0) (nv ps 1) (nv ps 2)) := hAN.trans ((cmdE_3 kAdd (nv ps 0) (nv ps 1) (nv ps 2) s).trans ((if_neg (by decide)).trans (if_pos rfl)))
                have hEb := addErr_bd (nv ps 0) (nv ps 1) (nv ps 2) s.2.length
                clear hAN
                generalize addErr (nv ps 0) (nv ps 1) (nv ps 2) s.2.length = E at *
                generalize bAdd s (nv ps 0) (nv ps 1) (nv ps 2) = s2 at *
                have HAN := Lib.hid hAN2
                have HDO := Lib.hid hDo
                clear hAN2 hDo hia hia3 hown
                go_wp2_with fail
                go_at_call 43
                refine HDO.out.mono ?_
                rintro e w5 ⟨rfl, hDD⟩
                by_cases hE : E = 0
                · subst hE
                  rw [errV_zero]
                  have HDD := Lib.hid hDD
                  clear hDD hEb
                  go_wp2_with fail
                  go_ret
                  rw [HAN.out]
                  exact ⟨rfl, DeskDone.since hbW HDD.out⟩
                · rw [errV_pos hE]
                  have HS := Lib.hid (show saidL E = nameL E from if_neg hE)
                  have HNM := Lib.hid (Name_any E (by omega) hEb.2 w5 (HH.out w5 ((DeskDone.since hbW hDD).2.below HD.out)))
                  have HDD := Lib.hid hDD
                  clear hDD hEb hE
                  go_wp2_with fail
                  go_at_call 29
                  refine HNM.out.mono ?_
                  rintro e w6 ⟨rfl, hb6⟩
                  go_wp2_with fail
                  go_ret
                  rw [HAN.out]
                  simp only [HS.out]
                  exact ⟨rfl, DeskDone.later (DeskDone.since hbW HDD.out) hb6⟩
              | get =>
                obtain ⟨a', cap', e, hle1, -, -, hia⟩ := hown.shape
                simp only [Value.slice.injEq] at e
                obtain ⟨rfl, e2, rfl⟩ := e
                rw [nvI_len] at e2 hle1
                subst e2
                have hia3 : IntsAt wr la 2 [((nv ps 0 : Nat) : Int), ((nv ps 1 : Nat) : Int)] := hia
                have hAN2 : ansP ps s = (if 3 < nv ps 0 ∨ 3 < nv ps 1 then (nameL 1, s) else (Lib.decDigits (fn s.1 (nv ps 0) (nv ps 1)).toNat, s)) := hAN.trans ((cmdE_2 kGet (nv ps 0) (nv ps 1) s).trans (if_pos rfl))
                clear hAN
                by_cases hb : 3 < nv ps 0 ∨ 3 < nv ps 1
                · have HAN := Lib.hid (hAN2.trans (if_pos hb))
                  have HDO := Lib.hid (DoGet_bad wr (.pointer (some ⟨D, 0, none⟩)) la lc (nv ps 0) (nv ps 1) hia3 hle1 hb)
                  clear hAN2 hia hia3 hown hb
                  go_wp2_with fail
                  go_at_call 44
                  refine HDO.out.mono ?_
                  rintro e w5 ⟨rfl, hb5⟩
                  have hbW5 := below_trans hbW hb5
                  have HNM := Lib.hid (Name_any 1 (by omega) (by omega) w5 (HH.out w5 (hbW5.mono hBw)))
                  rw [errV_pos (by decide)]
                  go_wp2_with fail
                  go_at_call 29
                  refine HNM.out.mono ?_
                  rintro e w6 ⟨rfl, hb6⟩
                  go_wp2_with fail
                  go_ret
                  rw [HAN.out]
                  exact ⟨rfl, DeskDone.same HD.out (below_trans hbW5 hb6)⟩
                · have HAN := Lib.hid (hAN2.trans (if_neg hb))
                  have HDO := Lib.hid (DoGet_good wr B D Bk G vs vl s (HD.out.call hbW) hBwr (HG.out.above hBw hbW) la lc (nv ps 0) (nv ps 1) hia3 hle1 (by omega) (by omega))
                  clear hAN2 hia hia3 hown hb
                  generalize Lib.decDigits (fn s.1 (nv ps 0) (nv ps 1)).toNat = z at *
                  go_wp2_with fail
                  go_at_call 44
                  refine HDO.out.mono ?_
                  rintro e w5 ⟨rfl, hb5⟩
                  go_wp2_with fail
                  go_ret
                  rw [HAN.out]
                  exact ⟨rfl, DeskDone.same HD.out (below_trans hbW hb5)⟩
              | crash =>
                obtain ⟨a', cap', e, hle1, -, -, hia⟩ := hown.shape
                simp only [Value.slice.injEq] at e
                obtain ⟨rfl, e2, rfl⟩ := e
                rw [nvI_len] at e2 hle1
                subst e2
                have hia3 : IntsAt wr la 1 [((nv ps 0 : Nat) : Int)] := hia
                have hAN2 : ansP ps s = (kFound ++ Lib.decDigits (openE ((textOf s.2).data.toList.take (nv ps 0))).2.1, (openE ((textOf s.2).data.toList.take (nv ps 0))).2.2) := hAN.trans ((cmdE_1 kCrash (nv ps 0) s).trans (if_pos rfl))
                have HDO := DoCrash wr B D Bk G vs vl s (HD.out.call hbW) HOK.out hBwr (HG.out.above hBw hbW) la lc (nv ps 0) hia3 hle1
                clear hAN
                generalize kFound ++ Lib.decDigits (openE ((textOf s.2).data.toList.take (nv ps 0))).2.1 = z at *
                generalize (openE ((textOf s.2).data.toList.take (nv ps 0))).2.2 = s2 at *
                have HAN := Lib.hid hAN2
                have HDO := Lib.hid HDO
                clear hAN2 hia hia3 hown
                go_wp2_with fail
                go_at_call 46
                refine HDO.out.mono ?_
                rintro e w5 ⟨rfl, hDD⟩
                have HDD := Lib.hid hDD
                clear hDD
                go_wp2_with fail
                go_ret
                rw [HAN.out]
                exact ⟨rfl, DeskDone.since hbW HDD.out⟩
    · go_simp
      refine hK.out _ _ (HC0.out _ d2) (fun hHeld => ?_)
      clear hK K
      (try simp only [Act.put, List.setIfInBounds_toArray, List.set_cons_zero, List.set_cons_succ])
      refine wpAnyH_ready (rs := [4]) (by kernel_rfl) (by simp) ?_
      refine AllReadyH.cons rfl (fun K hK => ?_) AllReadyH.nil
      go_simp
      (try go_simp)
      refine hK.out _ _ (HC0.out _ d2) (fun hHeld => ?_)
      clear hK K
      (try simp only [Act.put, List.setIfInBounds_toArray, List.set_cons_zero, List.set_cons_succ])
      refine wpAnyH_take (i := 5) (v := ?_) rfl (by kernel_rfl) (by kernel_rfl) (by kernel_rfl) (fun _ _ _ h => h) (Or.inl ⟨by rfl, ?_⟩) (by assumption) ?_
      rotate_left
      · (intro w hSw; (try dsimp only at hSw); go_simp; try with_reducible rfl)
      rotate_left
      (try simp only [Act.put, List.setIfInBounds_toArray, List.set_cons_zero, List.set_cons_succ])
      refine wpAnyH_take (i := 6) (v := ?_) rfl (by kernel_rfl) (by kernel_rfl) (by kernel_rfl) (fun _ _ _ h => h) (Or.inl ⟨by rfl, ?_⟩) (by assumption) ?_
      rotate_left
      · (intro w hSw; (try dsimp only at hSw); go_simp; try with_reducible rfl)
      rotate_left
      (try simp only [Act.put, List.setIfInBounds_toArray, List.set_cons_zero, List.set_cons_succ])
      refine wpAnyH_take (i := 7) (v := ?_) rfl (by kernel_rfl) (by kernel_rfl) (by kernel_rfl) (fun _ _ _ h => h) (Or.inl ⟨by rfl, ?_⟩) (by assumption) ?_
      rotate_left
      · (intro w hSw; (try dsimp only at hSw); go_simp; try with_reducible rfl)
      rotate_left
      (try simp only [Act.put, List.setIfInBounds_toArray, List.set_cons_zero, List.set_cons_succ])
      refine wpAnyH_ready (rs := [9]) (by kernel_rfl) (by simp) ?_
      refine AllReadyH.cons rfl (fun K hK => ?_) AllReadyH.nil
      go_simp
      (try go_simp)
      refine hK.out _ _ (HC0.out _ d3) (fun hHeld => ?_)
      clear hK K
      (try simp only [Act.put, List.setIfInBounds_toArray, List.set_cons_zero, List.set_cons_succ])
      refine wpAnyH_take (i := 10) (v := ?_) rfl (by kernel_rfl) (by kernel_rfl) (by kernel_rfl) (fun _ _ _ h => h) (Or.inl ⟨by rfl, ?_⟩) (by assumption) ?_
      rotate_left
      · (intro w hSw; (try dsimp only at hSw); go_simp; try with_reducible rfl)
      rotate_left
      (try simp only [Act.put, List.setIfInBounds_toArray, List.set_cons_zero, List.set_cons_succ])
      refine wpAnyH_done (by kernel_rfl) ?_ _
      obtain ⟨c, hc⟩ : ∃ c, c = w2.heap.size := ⟨_, rfl⟩
      rw [← hc] at hbx7 ⊢
      generalize w2.alloc (cmdBox m f) = W7 at *
      clear hc k1 k2 d1 d2 hmo hb2 hr
      have hb7 : Below w.heap.size w W7 := hb1.trans (d3.mono hs1)
      have c0 : W7.cell? ⟨c, 0, none⟩ = some (.int .i64 m) := by simp [World.cell?, hbx7]
      have c1 : W7.cell? ⟨c, 1, none⟩ = some f := by simp [World.cell?, hbx7]
      have hcl : c < W7.heap.size := (Array.getElem?_eq_some_iff.1 hbx7).1
      have HC1 := Lib.hid (fun W (h : Below W7.heap.size W7 W) => (h.cell (p := ⟨c, 1, none⟩) hcl).trans c1)
      have HP7 := Lib.hid (fun W (h : Below W7.heap.size W7 W) k (hk : k < n + 1) => HP1.out W (below_trans d3 h) k hk)
      have HB7 := Lib.hid hb7
      have hs7 := hb7.size
      clear hbx7
      by_cases hbad : b = false ∨ n ≠ m
      · have HR := Lib.hid (HNO.out (by rcases hbad with h | h; exact Or.inl h; exact Or.inr (by rw [HN.out]; omega)))
        have hbb : b = false ∨ (b = true ∧ (((n : Int) + 1) != (m : Int) + 1) = true) := by
          cases b with
          | false => exact Or.inl rfl
          | true =>
            refine Or.inr ⟨rfl, ?_⟩
            rcases hbad with h | h
            · cases h
            · rw [bne_iff_ne]; omega
        clear hbad HNO HBAD HGO
        rcases hbb with rfl | ⟨rfl, hbb⟩
        all_goals
          go_wp2_with fail
          go_ret
          rw [HR.out]
          exact ⟨rfl, DeskDone.same HD.out hb7⟩
      · have hb : b = true := by cases b with | false => exact absurd (Or.inl rfl) hbad | true => rfl
        have hnm : n = m := by by_cases h : n = m; exact h; exact absurd (Or.inr h) hbad
        subst hb
        subst hnm
        have hbb : (((n : Int) + 1) != (n : Int) + 1) = false := by simp
        clear hbad HNO
        by_cases hn0 : n = 0
        · subst hn0
          have hfd : f = .func (.func 45) #[] #[] ∧ w0 = kDet := by
            have h := HCI.out
            generalize hz : (0 : Nat) = z at h
            generalize ht : true = tt at h
            cases h <;> first | exact ⟨rfl, rfl⟩ | (cases hz; done) | (cases ht; done)
          obtain ⟨rfl, rfl⟩ := hfd
          go_wp2_with fail
          go_loopg [8, 38] 2 (fun g lv iv wr => 1 < g ∧ lv = .slice none 0 0 ∧ iv = .int .i64 0 ∧ wr = W7)
          case atStart => exact ⟨by omega, rfl, rfl, rfl⟩
          case round =>
            obtain ⟨hg, rfl, rfl, rfl⟩ := hrel
            have hAN := (HGO.out (fun j hj => by omega)).trans (by rw [← HW0.out])
            have hAN2 : ansP ps s = (Lib.decDigits (G_det s.1).toNat, s) := hAN.trans ((cmdE_0 kDet s).trans (if_pos rfl))
            have HDO := Lib.hid (DoDet wr B D Bk G vs vl s (HD.out.call hb7) (Nat.le_trans hBw hs7) (HG.out.above hBw hb7) (.slice none 0 0))
            have HAN := Lib.hid hAN2
            clear hAN hAN2
            generalize Lib.decDigits (G_det s.1).toNat = z at *
            go_wp2_with fail
            go_at_call 45
            refine HDO.out.mono ?_
            rintro e w5 ⟨rfl, hDD⟩
            have HDD := Lib.hid hDD
            clear hDD
            go_wp2_with fail
            go_ret
            rw [HAN.out]
            exact ⟨rfl, DeskDone.since hb7 HDD.out⟩
        · have hn1 : 1 ≤ n := by omega
          have hni : (1 : Int) ≤ n := by omega
          go_wp2_with fail
          go_loopg [8, 38] (n + 1) (fun g lv iv wr => ∃ t : Nat, t ≤ n ∧ n - t < g ∧ iv = .int .i64 t ∧ OwnInts wr W7.heap.size lv (nvI ps t) ∧ (∀ j, j < t → (num7 (ps.getD (j + 1) [])).isSome = true) ∧ Below W7.heap.size W7 wr)
          case atStart => exact ⟨0, by omega, by omega, rfl, World.ownsRow_nil _ _ _ _, fun j hj => by omega, Below.refl _ _⟩
          case round =>
            obtain ⟨t, ht, hg, rfl, hown, hsome, hbel⟩ := hrel
            have hbels := hbel.size
            have hbW : Below w.heap.size w wr := below_trans HB7.out hbel
            have hBwr : B ≤ wr.heap.size := Nat.le_trans hBw hbW.size
            obtain ⟨la, ln, lc, rfl⟩ := OwnInts.isSlice hown
            by_cases htn : t < n
            · have q1 := HP7.out wr hbel (t + 1) (by omega)
              have hti : (t : Int) < n := by omega
              have ht0 : (0 : Int) ≤ t := by omega
              have hNU := DNumber_any (ba (ps.getD (t + 1) [])) B wr (HG.out.above hBw hbW) hBwr (HPZ.out _)
              rw [ba_toList] at hNU
              have hpv : nv ps t = (num7 (ps.getD (t + 1) [])).getD 0 := rfl
              have hbadr := fun h => HBAD.out ⟨t, htn, h⟩
              generalize hpc2 : ps.getD (t + 1) [] = pcz at q1 hNU hpv hbadr
              rw [Nat.add_comm t 1] at q1
              have HPC2 := Lib.hid hpc2
              have HBR := Lib.hid hbadr
              have HOW := Lib.hid hown
              have HSM := Lib.hid hsome
              have HPV := Lib.hid hpv
              clear hpc2 hbadr hown hsome hpv
              go_wp2_with fail
              go_at_call 28
              refine hNU.mono ?_
              rintro e W3 ⟨⟨v, rfl, hv⟩, hb3⟩
              cases hn : num7 pcz with
              | none =>
                have HRE := Lib.hid (HBR.out hn)
                clear hn hv
                go_wp2_with fail
                go_ret
                rw [HRE.out]
                exact ⟨rfl, DeskDone.same HD.out (below_trans hbW hb3)⟩
              | some z =>
                obtain rfl := hv z hn
                have hpvz : nv ps t = z := by rw [HPV.out, hn]; rfl
                have HSZ := Lib.hid (show (num7 pcz).isSome = true from by rw [hn]; rfl)
                have HPZV := Lib.hid hpvz
                have HOW3 := Lib.hid (HOW.out.call hb3)
                have hb3s := hb3.size
                clear hn hv hpvz
                go_wp2_with (at_builtin; refine wpList_append_own1 (o := ⟨some 52, _, _, _, _, _⟩) rfl _ _ 62 rfl W7.heap.size 3 ii (.int .i64 0) 8 Tryz.underlying62 hi hz0 hz1 hz2 rfl _ (nvI ps t).length ((nvI ps t).map (Value.int .i64)) rfl (World.ownsRow.alloc HOW3.out _) (some ⟨W3.heap.size, 0, none⟩) 1 1 [.int .i64 z] rfl rfl (fun h => by cases h) (one_new _ _ _) (one_int _ _) (by rw [nvI_len]; unfold maxLen; omega) (by rw [nvI_len]; omega) (le_alloc (Nat.le_trans hbels hb3s) _) ?_; intro v4 w4 hown4 hgrow4)
                have hs4 := OwnInts.snoc rfl hown4
                rw [← HPZV.out, ← nvI_snoc] at hs4
                have hb4 := own_grow (below_trans hbel hb3) HOW3.out hgrow4
                go_roundg (n - t)
                case measure => omega
                case rel =>
                  refine ⟨t + 1, by omega, by omega, by go_num, hs4, fun j hj => ?_, hb4⟩
                  by_cases hjt : j < t
                  · exact HSM.out j hjt
                  · obtain rfl : j = t := by omega
                    rw [HPC2.out]; exact HSZ.out
            · obtain rfl : t = n := by omega
              have c1' := HC1.out wr hbel
              have hAN := (HGO.out hsome).trans (by rw [← HW0.out])
              have hci := HCI.out
              clear c1 hsome HBAD HGO
              cases hci with
              | det => omega
              | set =>
                obtain ⟨a', cap', e, hle1, -, -, hia⟩ := hown.shape
                simp only [Value.slice.injEq] at e
                obtain ⟨rfl, e2, rfl⟩ := e
                rw [nvI_len] at e2 hle1
                subst e2
                have hia3 : IntsAt wr la 3 [((nv ps 0 : Nat) : Int), ((nv ps 1 : Nat) : Int), ((nv ps 2 : Nat) : Int)] := hia
                have hDo := DoSet wr B D Bk G vs vl s (HD.out.call hbW) hBwr (HG.out.above hBw hbW) la lc _ _ _ hia3 hle1
                have hAN2 : ansP ps s = (saidL (setErr (nv ps 0) (nv ps 1) (nv ps 2) s.2.length), bSet s (nv ps 0) (nv ps 1) (nv ps 2)) := hAN.trans ((cmdE_3 kSet (nv ps 0) (nv ps 1) (nv ps 2) s).trans (if_pos rfl))
                have hEb := setErr_bd (nv ps 0) (nv ps 1) (nv ps 2) s.2.length
                clear hAN
                generalize setErr (nv ps 0) (nv ps 1) (nv ps 2) s.2.length = E at *
                generalize bSet s (nv ps 0) (nv ps 1) (nv ps 2) = s2 at *
                have HAN := Lib.hid hAN2
                have HDO := Lib.hid hDo
                clear hAN2 hDo hia hia3 hown
                go_wp2_with fail
                go_at_call 42
                refine HDO.out.mono ?_
                rintro e w5 ⟨rfl, hDD⟩
                by_cases hE : E = 0
                · subst hE
                  rw [errV_zero]
                  have HDD := Lib.hid hDD
                  clear hDD hEb
                  go_wp2_with fail
                  go_ret
                  rw [HAN.out]
                  exact ⟨rfl, DeskDone.since hbW HDD.out⟩
                · rw [errV_pos hE]
                  have HS := Lib.hid (show saidL E = nameL E from if_neg hE)
                  have HNM := Lib.hid (Name_any E (by omega) hEb.2 w5 (HH.out w5 ((DeskDone.since hbW hDD).2.below HD.out)))
                  have HDD := Lib.hid hDD
                  clear hDD hEb hE
                  go_wp2_with fail
                  go_at_call 29
                  refine HNM.out.mono ?_
                  rintro e w6 ⟨rfl, hb6⟩
                  go_wp2_with fail
                  go_ret
                  rw [HAN.out]
                  simp only [HS.out]
                  exact ⟨rfl, DeskDone.later (DeskDone.since hbW HDD.out) hb6⟩
              | add =>
                obtain ⟨a', cap', e, hle1, -, -, hia⟩ := hown.shape
                simp only [Value.slice.injEq] at e
                obtain ⟨rfl, e2, rfl⟩ := e
                rw [nvI_len] at e2 hle1
                subst e2
                have hia3 : IntsAt wr la 3 [((nv ps 0 : Nat) : Int), ((nv ps 1 : Nat) : Int), ((nv ps 2 : Nat) : Int)] := hia
                have hDo := DoAdd wr B D Bk G vs vl s (HD.out.call hbW) hBwr (HG.out.above hBw hbW) la lc _ _ _ hia3 hle1
                have hAN2 : ansP ps s = (saidL (addErr (nv ps 0) (nv ps 1) (nv ps 2) s.2.length), bAdd s (nv ps 0) (nv ps 1) (nv ps 2)) := hAN.trans ((cmdE_3 kAdd (nv ps 0) (nv ps 1) (nv ps 2) s).trans ((if_neg (by decide)).trans (if_pos rfl)))
                have hEb := addErr_bd (nv ps 0) (nv ps 1) (nv ps 2) s.2.length
                clear hAN
                generalize addErr (nv ps 0) (nv ps 1) (nv ps 2) s.2.length = E at *
                generalize bAdd s (nv ps 0) (nv ps 1) (nv ps 2) = s2 at *
                have HAN := Lib.hid hAN2
                have HDO := Lib.hid hDo
                clear hAN2 hDo hia hia3 hown
                go_wp2_with fail
                go_at_call 43
                refine HDO.out.mono ?_
                rintro e w5 ⟨rfl, hDD⟩
                by_cases hE : E = 0
                · subst hE
                  rw [errV_zero]
                  have HDD := Lib.hid hDD
                  clear hDD hEb
                  go_wp2_with fail
                  go_ret
                  rw [HAN.out]
                  exact ⟨rfl, DeskDone.since hbW HDD.out⟩
                · rw [errV_pos hE]
                  have HS := Lib.hid (show saidL E = nameL E from if_neg hE)
                  have HNM := Lib.hid (Name_any E (by omega) hEb.2 w5 (HH.out w5 ((DeskDone.since hbW hDD).2.below HD.out)))
                  have HDD := Lib.hid hDD
                  clear hDD hEb hE
                  go_wp2_with fail
                  go_at_call 29
                  refine HNM.out.mono ?_
                  rintro e w6 ⟨rfl, hb6⟩
                  go_wp2_with fail
                  go_ret
                  rw [HAN.out]
                  simp only [HS.out]
                  exact ⟨rfl, DeskDone.later (DeskDone.since hbW HDD.out) hb6⟩
              | get =>
                obtain ⟨a', cap', e, hle1, -, -, hia⟩ := hown.shape
                simp only [Value.slice.injEq] at e
                obtain ⟨rfl, e2, rfl⟩ := e
                rw [nvI_len] at e2 hle1
                subst e2
                have hia3 : IntsAt wr la 2 [((nv ps 0 : Nat) : Int), ((nv ps 1 : Nat) : Int)] := hia
                have hAN2 : ansP ps s = (if 3 < nv ps 0 ∨ 3 < nv ps 1 then (nameL 1, s) else (Lib.decDigits (fn s.1 (nv ps 0) (nv ps 1)).toNat, s)) := hAN.trans ((cmdE_2 kGet (nv ps 0) (nv ps 1) s).trans (if_pos rfl))
                clear hAN
                by_cases hb : 3 < nv ps 0 ∨ 3 < nv ps 1
                · have HAN := Lib.hid (hAN2.trans (if_pos hb))
                  have HDO := Lib.hid (DoGet_bad wr (.pointer (some ⟨D, 0, none⟩)) la lc (nv ps 0) (nv ps 1) hia3 hle1 hb)
                  clear hAN2 hia hia3 hown hb
                  go_wp2_with fail
                  go_at_call 44
                  refine HDO.out.mono ?_
                  rintro e w5 ⟨rfl, hb5⟩
                  have hbW5 := below_trans hbW hb5
                  have HNM := Lib.hid (Name_any 1 (by omega) (by omega) w5 (HH.out w5 (hbW5.mono hBw)))
                  rw [errV_pos (by decide)]
                  go_wp2_with fail
                  go_at_call 29
                  refine HNM.out.mono ?_
                  rintro e w6 ⟨rfl, hb6⟩
                  go_wp2_with fail
                  go_ret
                  rw [HAN.out]
                  exact ⟨rfl, DeskDone.same HD.out (below_trans hbW5 hb6)⟩
                · have HAN := Lib.hid (hAN2.trans (if_neg hb))
                  have HDO := Lib.hid (DoGet_good wr B D Bk G vs vl s (HD.out.call hbW) hBwr (HG.out.above hBw hbW) la lc (nv ps 0) (nv ps 1) hia3 hle1 (by omega) (by omega))
                  clear hAN2 hia hia3 hown hb
                  generalize Lib.decDigits (fn s.1 (nv ps 0) (nv ps 1)).toNat = z at *
                  go_wp2_with fail
                  go_at_call 44
                  refine HDO.out.mono ?_
                  rintro e w5 ⟨rfl, hb5⟩
                  go_wp2_with fail
                  go_ret
                  rw [HAN.out]
                  exact ⟨rfl, DeskDone.same HD.out (below_trans hbW hb5)⟩
              | crash =>
                obtain ⟨a', cap', e, hle1, -, -, hia⟩ := hown.shape
                simp only [Value.slice.injEq] at e
                obtain ⟨rfl, e2, rfl⟩ := e
                rw [nvI_len] at e2 hle1
                subst e2
                have hia3 : IntsAt wr la 1 [((nv ps 0 : Nat) : Int)] := hia
                have hAN2 : ansP ps s = (kFound ++ Lib.decDigits (openE ((textOf s.2).data.toList.take (nv ps 0))).2.1, (openE ((textOf s.2).data.toList.take (nv ps 0))).2.2) := hAN.trans ((cmdE_1 kCrash (nv ps 0) s).trans (if_pos rfl))
                have HDO := DoCrash wr B D Bk G vs vl s (HD.out.call hbW) HOK.out hBwr (HG.out.above hBw hbW) la lc (nv ps 0) hia3 hle1
                clear hAN
                generalize kFound ++ Lib.decDigits (openE ((textOf s.2).data.toList.take (nv ps 0))).2.1 = z at *
                generalize (openE ((textOf s.2).data.toList.take (nv ps 0))).2.2 = s2 at *
                have HAN := Lib.hid hAN2
                have HDO := Lib.hid HDO
                clear hAN2 hia hia3 hown
                go_wp2_with fail
                go_at_call 46
                refine HDO.out.mono ?_
                rintro e w5 ⟨rfl, hDD⟩
                have HDD := Lib.hid hDD
                clear hDD
                go_wp2_with fail
                go_ret
                rw [HAN.out]
                exact ⟨rfl, DeskDone.since hbW HDD.out⟩
  · go_simp
    refine hK.out _ _ (HC0.out _ (hAL _)) (fun hHeld => ?_)
    clear hK K
    (try simp only [Act.put, List.setIfInBounds_toArray, List.set_cons_zero, List.set_cons_succ])
    refine wpAnyH_ready (rs := [0]) (by kernel_rfl) (by simp) ?_
    refine AllReadyH.cons rfl (fun K hK => ?_) AllReadyH.nil
    go_simp
    go_at_call 27
    refine (Commands_any _).mono ?_
    rintro e w2 ⟨r, rfl, hr, hmo, hb2⟩
    have d1 : Below W1.heap.size W1 w2 := below_trans (hAL _) hb2
    have hbx : w2.heap[W1.heap.size]? = some (cmdBox 0 .nilFunc) := (hb2.block _ (by simp)).trans (heap_alloc_new _ _)
    have y0 : w2.cell? ⟨W1.heap.size, 0, none⟩ = some (.int .i64 0) := by simp [World.cell?, hbx]
    have y1 : w2.cell? ⟨W1.heap.size, 1, none⟩ = some .nilFunc := by simp [World.cell?, hbx]
    have g0 : w2.frozen? ⟨W1.heap.size, 0, none⟩ = false := by simp [World.frozen?, hbx]
    have g1 : w2.frozen? ⟨W1.heap.size, 1, none⟩ = false := by simp [World.frozen?, hbx]
    have k1 := HLK.out _ _ hmo
    have d3 : Below W1.heap.size W1 ((w2.setCell ⟨W1.heap.size, 0, none⟩ (.int .i64 m)).setCell ⟨W1.heap.size, 1, none⟩ f) := (d1.setCell (p := ⟨W1.heap.size, 0, none⟩) (Nat.le_refl _) _).setCell (p := ⟨W1.heap.size, 1, none⟩) (Nat.le_refl _) _
    have hbx7 : ((w2.setCell ⟨W1.heap.size, 0, none⟩ (.int .i64 m)).setCell ⟨W1.heap.size, 1, none⟩ f).heap[W1.heap.size]? = some (cmdBox m f) := box_store2 hbx
    clear hbx
    (try go_simp)
    refine hK.out _ _ (HC0.out _ d1) (fun hHeld => ?_)
    clear hK K
    (try simp only [Act.put, List.setIfInBounds_toArray, List.set_cons_zero, List.set_cons_succ])
    refine wpAnyH_ready (rs := [4]) (by kernel_rfl) (by simp) ?_
    refine AllReadyH.cons rfl (fun K hK => ?_) AllReadyH.nil
    go_simp
    (try go_simp)
    refine hK.out _ _ (HC0.out _ d1) (fun hHeld => ?_)
    clear hK K
    (try simp only [Act.put, List.setIfInBounds_toArray, List.set_cons_zero, List.set_cons_succ])
    refine wpAnyH_take (i := 5) (v := ?_) rfl (by kernel_rfl) (by kernel_rfl) (by kernel_rfl) (fun _ _ _ h => h) (Or.inl ⟨by rfl, ?_⟩) (by assumption) ?_
    rotate_left
    · (intro w hSw; (try dsimp only at hSw); go_simp; try with_reducible rfl)
    rotate_left
    (try simp only [Act.put, List.setIfInBounds_toArray, List.set_cons_zero, List.set_cons_succ])
    refine wpAnyH_take (i := 6) (v := ?_) rfl (by kernel_rfl) (by kernel_rfl) (by kernel_rfl) (fun _ _ _ h => h) (Or.inl ⟨by rfl, ?_⟩) (by assumption) ?_
    rotate_left
    · (intro w hSw; (try dsimp only at hSw); go_simp; try with_reducible rfl)
    rotate_left
    (try simp only [Act.put, List.setIfInBounds_toArray, List.set_cons_zero, List.set_cons_succ])
    refine wpAnyH_take (i := 7) (v := ?_) rfl (by kernel_rfl) (by kernel_rfl) (by kernel_rfl) (fun _ _ _ h => h) (Or.inl ⟨by rfl, ?_⟩) (by assumption) ?_
    rotate_left
    · (intro w hSw; (try dsimp only at hSw); go_simp; try with_reducible rfl)
    rotate_left
    (try simp only [Act.put, List.setIfInBounds_toArray, List.set_cons_zero, List.set_cons_succ])
    refine wpAnyH_ready (rs := [9]) (by kernel_rfl) (by simp) ?_
    refine AllReadyH.cons rfl (fun K hK => ?_) AllReadyH.nil
    go_simp
    (try go_simp)
    refine hK.out _ _ (HC0.out _ d3) (fun hHeld => ?_)
    clear hK K
    (try simp only [Act.put, List.setIfInBounds_toArray, List.set_cons_zero, List.set_cons_succ])
    refine wpAnyH_take (i := 10) (v := ?_) rfl (by kernel_rfl) (by kernel_rfl) (by kernel_rfl) (fun _ _ _ h => h) (Or.inl ⟨by rfl, ?_⟩) (by assumption) ?_
    rotate_left
    · (intro w hSw; (try dsimp only at hSw); go_simp; try with_reducible rfl)
    rotate_left
    (try simp only [Act.put, List.setIfInBounds_toArray, List.set_cons_zero, List.set_cons_succ])
    refine wpAnyH_done (by kernel_rfl) ?_ _
    obtain ⟨c, hc⟩ : ∃ c, c = W1.heap.size := ⟨_, rfl⟩
    generalize (w2.setCell ⟨W1.heap.size, 0, none⟩ (.int .i64 m)).setCell ⟨W1.heap.size, 1, none⟩ f = W7 at *
    rw [← hc] at hbx7 ⊢
    clear hc k1 d1 hmo hb2 hr y0 y1 g0 g1
    have hb7 : Below w.heap.size w W7 := hb1.trans (d3.mono hs1)
    have c0 : W7.cell? ⟨c, 0, none⟩ = some (.int .i64 m) := by simp [World.cell?, hbx7]
    have c1 : W7.cell? ⟨c, 1, none⟩ = some f := by simp [World.cell?, hbx7]
    have hcl : c < W7.heap.size := (Array.getElem?_eq_some_iff.1 hbx7).1
    have HC1 := Lib.hid (fun W (h : Below W7.heap.size W7 W) => (h.cell (p := ⟨c, 1, none⟩) hcl).trans c1)
    have HP7 := Lib.hid (fun W (h : Below W7.heap.size W7 W) k (hk : k < n + 1) => HP1.out W (below_trans d3 h) k hk)
    have HB7 := Lib.hid hb7
    have hs7 := hb7.size
    clear hbx7
    by_cases hbad : b = false ∨ n ≠ m
    · have HR := Lib.hid (HNO.out (by rcases hbad with h | h; exact Or.inl h; exact Or.inr (by rw [HN.out]; omega)))
      have hbb : b = false ∨ (b = true ∧ (((n : Int) + 1) != (m : Int) + 1) = true) := by
        cases b with
        | false => exact Or.inl rfl
        | true =>
          refine Or.inr ⟨rfl, ?_⟩
          rcases hbad with h | h
          · cases h
          · rw [bne_iff_ne]; omega
      clear hbad HNO HBAD HGO
      rcases hbb with rfl | ⟨rfl, hbb⟩
      all_goals
        go_wp2_with fail
        go_ret
        rw [HR.out]
        exact ⟨rfl, DeskDone.same HD.out hb7⟩
    · have hb : b = true := by cases b with | false => exact absurd (Or.inl rfl) hbad | true => rfl
      have hnm : n = m := by by_cases h : n = m; exact h; exact absurd (Or.inr h) hbad
      subst hb
      subst hnm
      have hbb : (((n : Int) + 1) != (n : Int) + 1) = false := by simp
      clear hbad HNO
      by_cases hn0 : n = 0
      · subst hn0
        have hfd : f = .func (.func 45) #[] #[] ∧ w0 = kDet := by
          have h := HCI.out
          generalize hz : (0 : Nat) = z at h
          generalize ht : true = tt at h
          cases h <;> first | exact ⟨rfl, rfl⟩ | (cases hz; done) | (cases ht; done)
        obtain ⟨rfl, rfl⟩ := hfd
        go_wp2_with fail
        go_loopg [8, 38] 2 (fun g lv iv wr => 1 < g ∧ lv = .slice none 0 0 ∧ iv = .int .i64 0 ∧ wr = W7)
        case atStart => exact ⟨by omega, rfl, rfl, rfl⟩
        case round =>
          obtain ⟨hg, rfl, rfl, rfl⟩ := hrel
          have hAN := (HGO.out (fun j hj => by omega)).trans (by rw [← HW0.out])
          have hAN2 : ansP ps s = (Lib.decDigits (G_det s.1).toNat, s) := hAN.trans ((cmdE_0 kDet s).trans (if_pos rfl))
          have HDO := Lib.hid (DoDet wr B D Bk G vs vl s (HD.out.call hb7) (Nat.le_trans hBw hs7) (HG.out.above hBw hb7) (.slice none 0 0))
          have HAN := Lib.hid hAN2
          clear hAN hAN2
          generalize Lib.decDigits (G_det s.1).toNat = z at *
          go_wp2_with fail
          go_at_call 45
          refine HDO.out.mono ?_
          rintro e w5 ⟨rfl, hDD⟩
          have HDD := Lib.hid hDD
          clear hDD
          go_wp2_with fail
          go_ret
          rw [HAN.out]
          exact ⟨rfl, DeskDone.since hb7 HDD.out⟩
      · have hn1 : 1 ≤ n := by omega
        have hni : (1 : Int) ≤ n := by omega
        go_wp2_with fail
        go_loopg [8, 38] (n + 1) (fun g lv iv wr => ∃ t : Nat, t ≤ n ∧ n - t < g ∧ iv = .int .i64 t ∧ OwnInts wr W7.heap.size lv (nvI ps t) ∧ (∀ j, j < t → (num7 (ps.getD (j + 1) [])).isSome = true) ∧ Below W7.heap.size W7 wr)
        case atStart => exact ⟨0, by omega, by omega, rfl, World.ownsRow_nil _ _ _ _, fun j hj => by omega, Below.refl _ _⟩
        case round =>
          obtain ⟨t, ht, hg, rfl, hown, hsome, hbel⟩ := hrel
          have hbels := hbel.size
          have hbW : Below w.heap.size w wr := below_trans HB7.out hbel
          have hBwr : B ≤ wr.heap.size := Nat.le_trans hBw hbW.size
          obtain ⟨la, ln, lc, rfl⟩ := OwnInts.isSlice hown
          by_cases htn : t < n
          · have q1 := HP7.out wr hbel (t + 1) (by omega)
            have hti : (t : Int) < n := by omega
            have ht0 : (0 : Int) ≤ t := by omega
            have hNU := DNumber_any (ba (ps.getD (t + 1) [])) B wr (HG.out.above hBw hbW) hBwr (HPZ.out _)
            rw [ba_toList] at hNU
            have hpv : nv ps t = (num7 (ps.getD (t + 1) [])).getD 0 := rfl
            have hbadr := fun h => HBAD.out ⟨t, htn, h⟩
            generalize hpc2 : ps.getD (t + 1) [] = pcz at q1 hNU hpv hbadr
            rw [Nat.add_comm t 1] at q1
            have HPC2 := Lib.hid hpc2
            have HBR := Lib.hid hbadr
            have HOW := Lib.hid hown
            have HSM := Lib.hid hsome
            have HPV := Lib.hid hpv
            clear hpc2 hbadr hown hsome hpv
            go_wp2_with fail
            go_at_call 28
            refine hNU.mono ?_
            rintro e W3 ⟨⟨v, rfl, hv⟩, hb3⟩
            cases hn : num7 pcz with
            | none =>
              have HRE := Lib.hid (HBR.out hn)
              clear hn hv
              go_wp2_with fail
              go_ret
              rw [HRE.out]
              exact ⟨rfl, DeskDone.same HD.out (below_trans hbW hb3)⟩
            | some z =>
              obtain rfl := hv z hn
              have hpvz : nv ps t = z := by rw [HPV.out, hn]; rfl
              have HSZ := Lib.hid (show (num7 pcz).isSome = true from by rw [hn]; rfl)
              have HPZV := Lib.hid hpvz
              have HOW3 := Lib.hid (HOW.out.call hb3)
              have hb3s := hb3.size
              clear hn hv hpvz
              go_wp2_with (at_builtin; refine wpList_append_own1 (o := ⟨some 52, _, _, _, _, _⟩) rfl _ _ 62 rfl W7.heap.size 3 ii (.int .i64 0) 8 Tryz.underlying62 hi hz0 hz1 hz2 rfl _ (nvI ps t).length ((nvI ps t).map (Value.int .i64)) rfl (World.ownsRow.alloc HOW3.out _) (some ⟨W3.heap.size, 0, none⟩) 1 1 [.int .i64 z] rfl rfl (fun h => by cases h) (one_new _ _ _) (one_int _ _) (by rw [nvI_len]; unfold maxLen; omega) (by rw [nvI_len]; omega) (le_alloc (Nat.le_trans hbels hb3s) _) ?_; intro v4 w4 hown4 hgrow4)
              have hs4 := OwnInts.snoc rfl hown4
              rw [← HPZV.out, ← nvI_snoc] at hs4
              have hb4 := own_grow (below_trans hbel hb3) HOW3.out hgrow4
              go_roundg (n - t)
              case measure => omega
              case rel =>
                refine ⟨t + 1, by omega, by omega, by go_num, hs4, fun j hj => ?_, hb4⟩
                by_cases hjt : j < t
                · exact HSM.out j hjt
                · obtain rfl : j = t := by omega
                  rw [HPC2.out]; exact HSZ.out
          · obtain rfl : t = n := by omega
            have c1' := HC1.out wr hbel
            have hAN := (HGO.out hsome).trans (by rw [← HW0.out])
            have hci := HCI.out
            clear c1 hsome HBAD HGO
            cases hci with
            | det => omega
            | set =>
              obtain ⟨a', cap', e, hle1, -, -, hia⟩ := hown.shape
              simp only [Value.slice.injEq] at e
              obtain ⟨rfl, e2, rfl⟩ := e
              rw [nvI_len] at e2 hle1
              subst e2
              have hia3 : IntsAt wr la 3 [((nv ps 0 : Nat) : Int), ((nv ps 1 : Nat) : Int), ((nv ps 2 : Nat) : Int)] := hia
              have hDo := DoSet wr B D Bk G vs vl s (HD.out.call hbW) hBwr (HG.out.above hBw hbW) la lc _ _ _ hia3 hle1
              have hAN2 : ansP ps s = (saidL (setErr (nv ps 0) (nv ps 1) (nv ps 2) s.2.length), bSet s (nv ps 0) (nv ps 1) (nv ps 2)) := hAN.trans ((cmdE_3 kSet (nv ps 0) (nv ps 1) (nv ps 2) s).trans (if_pos rfl))
              have hEb := setErr_bd (nv ps 0) (nv ps 1) (nv ps 2) s.2.length
              clear hAN
              generalize setErr (nv ps 0) (nv ps 1) (nv ps 2) s.2.length = E at *
              generalize bSet s (nv ps 0) (nv ps 1) (nv ps 2) = s2 at *
              have HAN := Lib.hid hAN2
              have HDO := Lib.hid hDo
              clear hAN2 hDo hia hia3 hown
              go_wp2_with fail
              go_at_call 42
              refine HDO.out.mono ?_
              rintro e w5 ⟨rfl, hDD⟩
              by_cases hE : E = 0
              · subst hE
                rw [errV_zero]
                have HDD := Lib.hid hDD
                clear hDD hEb
                go_wp2_with fail
                go_ret
                rw [HAN.out]
                exact ⟨rfl, DeskDone.since hbW HDD.out⟩
              · rw [errV_pos hE]
                have HS := Lib.hid (show saidL E = nameL E from if_neg hE)
                have HNM := Lib.hid (Name_any E (by omega) hEb.2 w5 (HH.out w5 ((DeskDone.since hbW hDD).2.below HD.out)))
                have HDD := Lib.hid hDD
                clear hDD hEb hE
                go_wp2_with fail
                go_at_call 29
                refine HNM.out.mono ?_
                rintro e w6 ⟨rfl, hb6⟩
                go_wp2_with fail
                go_ret
                rw [HAN.out]
                simp only [HS.out]
                exact ⟨rfl, DeskDone.later (DeskDone.since hbW HDD.out) hb6⟩
            | add =>
              obtain ⟨a', cap', e, hle1, -, -, hia⟩ := hown.shape
              simp only [Value.slice.injEq] at e
              obtain ⟨rfl, e2, rfl⟩ := e
              rw [nvI_len] at e2 hle1
              subst e2
              have hia3 : IntsAt wr la 3 [((nv ps 0 : Nat) : Int), ((nv ps 1 : Nat) : Int), ((nv ps 2 : Nat) : Int)] := hia
              have hDo := DoAdd wr B D Bk G vs vl s (HD.out.call hbW) hBwr (HG.out.above hBw hbW) la lc _ _ _ hia3 hle1
              have hAN2 : ansP ps s = (saidL (addErr (nv ps 0) (nv ps 1) (nv ps 2) s.2.length), bAdd s (nv ps 0) (nv ps 1) (nv ps 2)) := hAN.trans ((cmdE_3 kAdd (nv ps 0) (nv ps 1) (nv ps 2) s).trans ((if_neg (by decide)).trans (if_pos rfl)))
              have hEb := addErr_bd (nv ps 0) (nv ps 1) (nv ps 2) s.2.length
              clear hAN
              generalize addErr (nv ps 0) (nv ps 1) (nv ps 2) s.2.length = E at *
              generalize bAdd s (nv ps 0) (nv ps 1) (nv ps 2) = s2 at *
              have HAN := Lib.hid hAN2
              have HDO := Lib.hid hDo
              clear hAN2 hDo hia hia3 hown
              go_wp2_with fail
              go_at_call 43
              refine HDO.out.mono ?_
              rintro e w5 ⟨rfl, hDD⟩
              by_cases hE : E = 0
              · subst hE
                rw [errV_zero]
                have HDD := Lib.hid hDD
                clear hDD hEb
                go_wp2_with fail
                go_ret
                rw [HAN.out]
                exact ⟨rfl, DeskDone.since hbW HDD.out⟩
              · rw [errV_pos hE]
                have HS := Lib.hid (show saidL E = nameL E from if_neg hE)
                have HNM := Lib.hid (Name_any E (by omega) hEb.2 w5 (HH.out w5 ((DeskDone.since hbW hDD).2.below HD.out)))
                have HDD := Lib.hid hDD
                clear hDD hEb hE
                go_wp2_with fail
                go_at_call 29
                refine HNM.out.mono ?_
                rintro e w6 ⟨rfl, hb6⟩
                go_wp2_with fail
                go_ret
                rw [HAN.out]
                simp only [HS.out]
                exact ⟨rfl, DeskDone.later (DeskDone.since hbW HDD.out) hb6⟩
            | get =>
              obtain ⟨a', cap', e, hle1, -, -, hia⟩ := hown.shape
              simp only [Value.slice.injEq] at e
              obtain ⟨rfl, e2, rfl⟩ := e
              rw [nvI_len] at e2 hle1
              subst e2
              have hia3 : IntsAt wr la 2 [((nv ps 0 : Nat) : Int), ((nv ps 1 : Nat) : Int)] := hia
              have hAN2 : ansP ps s = (if 3 < nv ps 0 ∨ 3 < nv ps 1 then (nameL 1, s) else (Lib.decDigits (fn s.1 (nv ps 0) (nv ps 1)).toNat, s)) := hAN.trans ((cmdE_2 kGet (nv ps 0) (nv ps 1) s).trans (if_pos rfl))
              clear hAN
              by_cases hb : 3 < nv ps 0 ∨ 3 < nv ps 1
              · have HAN := Lib.hid (hAN2.trans (if_pos hb))
                have HDO := Lib.hid (DoGet_bad wr (.pointer (some ⟨D, 0, none⟩)) la lc (nv ps 0) (nv ps 1) hia3 hle1 hb)
                clear hAN2 hia hia3 hown hb
                go_wp2_with fail
                go_at_call 44
                refine HDO.out.mono ?_
                rintro e w5 ⟨rfl, hb5⟩
                have hbW5 := below_trans hbW hb5
                have HNM := Lib.hid (Name_any 1 (by omega) (by omega) w5 (HH.out w5 (hbW5.mono hBw)))
                rw [errV_pos (by decide)]
                go_wp2_with fail
                go_at_call 29
                refine HNM.out.mono ?_
                rintro e w6 ⟨rfl, hb6⟩
                go_wp2_with fail
                go_ret
                rw [HAN.out]
                exact ⟨rfl, DeskDone.same HD.out (below_trans hbW5 hb6)⟩
              · have HAN := Lib.hid (hAN2.trans (if_neg hb))
                have HDO := Lib.hid (DoGet_good wr B D Bk G vs vl s (HD.out.call hbW) hBwr (HG.out.above hBw hbW) la lc (nv ps 0) (nv ps 1) hia3 hle1 (by omega) (by omega))
                clear hAN2 hia hia3 hown hb
                generalize Lib.decDigits (fn s.1 (nv ps 0) (nv ps 1)).toNat = z at *
                go_wp2_with fail
                go_at_call 44
                refine HDO.out.mono ?_
                rintro e w5 ⟨rfl, hb5⟩
                go_wp2_with fail
                go_ret
                rw [HAN.out]
                exact ⟨rfl, DeskDone.same HD.out (below_trans hbW hb5)⟩
            | crash =>
              obtain ⟨a', cap', e, hle1, -, -, hia⟩ := hown.shape
              simp only [Value.slice.injEq] at e
              obtain ⟨rfl, e2, rfl⟩ := e
              rw [nvI_len] at e2 hle1
              subst e2
              have hia3 : IntsAt wr la 1 [((nv ps 0 : Nat) : Int)] := hia
              have hAN2 : ansP ps s = (kFound ++ Lib.decDigits (openE ((textOf s.2).data.toList.take (nv ps 0))).2.1, (openE ((textOf s.2).data.toList.take (nv ps 0))).2.2) := hAN.trans ((cmdE_1 kCrash (nv ps 0) s).trans (if_pos rfl))
              have HDO := DoCrash wr B D Bk G vs vl s (HD.out.call hbW) HOK.out hBwr (HG.out.above hBw hbW) la lc (nv ps 0) hia3 hle1
              clear hAN
              generalize kFound ++ Lib.decDigits (openE ((textOf s.2).data.toList.take (nv ps 0))).2.1 = z at *
              generalize (openE ((textOf s.2).data.toList.take (nv ps 0))).2.2 = s2 at *
              have HAN := Lib.hid hAN2
              have HDO := Lib.hid HDO
              clear hAN2 hia hia3 hown
              go_wp2_with fail
              go_at_call 46
              refine HDO.out.mono ?_
              rintro e w5 ⟨rfl, hDD⟩
              have HDD := Lib.hid hDD
              clear hDD
              go_wp2_with fail
              go_ret
              rw [HAN.out]
              exact ⟨rfl, DeskDone.since hbW HDD.out⟩
end Go.Proofs.YtokneabcgmjhdaaGreatDoor
