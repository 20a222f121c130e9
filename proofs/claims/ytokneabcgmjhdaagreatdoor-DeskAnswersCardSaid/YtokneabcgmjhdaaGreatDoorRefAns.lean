/- Contract of the reference's answer to a line of a session. -/
import Derived.Test.YtokneabcgmjhdaaGreatDoorDeskRun
import Derived.Test.YtokneabcgmjhdaaGreatDoorDeskFact
import Derived.Test.YtokneabcgmjhdaaGreatDoorRefOpen
import Derived.Test.YtokneabcgmjhdaaGreatDoorDetMod
import Derived.Test.YtokneabcgmjhdaaGreatDoorBase
import Derived.Deep.RegionHeld3
namespace Go.Proofs.YtokneabcgmjhdaaGreatDoor
open Go.RowKit
set_option linter.unusedVariables false
set_option linter.unusedSimpArgs false

/-- which word of five -/
theorem word6 (w : List UInt8) : (w = kSet ∧ (w == [115, 101, 116]) = true ∧ (w == [97, 100, 100]) = false ∧ (w == [103, 101, 116]) = false ∧ (w == [100, 101, 116]) = false ∧ (w == [99, 114, 97, 115, 104]) = false)
    ∨ (w = kAdd ∧ (w == [115, 101, 116]) = false ∧ (w == [97, 100, 100]) = true ∧ (w == [103, 101, 116]) = false ∧ (w == [100, 101, 116]) = false ∧ (w == [99, 114, 97, 115, 104]) = false)
    ∨ (w = kGet ∧ (w == [115, 101, 116]) = false ∧ (w == [97, 100, 100]) = false ∧ (w == [103, 101, 116]) = true ∧ (w == [100, 101, 116]) = false ∧ (w == [99, 114, 97, 115, 104]) = false)
    ∨ (w = kDet ∧ (w == [115, 101, 116]) = false ∧ (w == [97, 100, 100]) = false ∧ (w == [103, 101, 116]) = false ∧ (w == [100, 101, 116]) = true ∧ (w == [99, 114, 97, 115, 104]) = false)
    ∨ (w = kCrash ∧ (w == [115, 101, 116]) = false ∧ (w == [97, 100, 100]) = false ∧ (w == [103, 101, 116]) = false ∧ (w == [100, 101, 116]) = false ∧ (w == [99, 114, 97, 115, 104]) = true)
    ∨ ((w ≠ kSet ∧ w ≠ kAdd ∧ w ≠ kGet ∧ w ≠ kDet ∧ w ≠ kCrash) ∧ (w == [115, 101, 116]) = false ∧ (w == [97, 100, 100]) = false ∧ (w == [103, 101, 116]) = false ∧ (w == [100, 101, 116]) = false ∧ (w == [99, 114, 97, 115, 104]) = false) := by
  by_cases h1 : w = kSet
  · subst h1; exact Or.inl ⟨rfl, by decide, by decide, by decide, by decide, by decide⟩
  by_cases h2 : w = kAdd
  · subst h2; exact Or.inr (Or.inl ⟨rfl, by decide, by decide, by decide, by decide, by decide⟩)
  by_cases h3 : w = kGet
  · subst h3; exact Or.inr (Or.inr (Or.inl ⟨rfl, by decide, by decide, by decide, by decide, by decide⟩))
  by_cases h4 : w = kDet
  · subst h4; exact Or.inr (Or.inr (Or.inr (Or.inl ⟨rfl, by decide, by decide, by decide, by decide, by decide⟩)))
  by_cases h5 : w = kCrash
  · subst h5; exact Or.inr (Or.inr (Or.inr (Or.inr (Or.inl ⟨rfl, by decide, by decide, by decide, by decide, by decide⟩))))
  exact Or.inr (Or.inr (Or.inr (Or.inr (Or.inr ⟨⟨h1, h2, h3, h4, h5⟩, beq_eq_false_iff_ne.2 h1, beq_eq_false_iff_ne.2 h2, beq_eq_false_iff_ne.2 h3, beq_eq_false_iff_ne.2 h4, beq_eq_false_iff_ne.2 h5⟩))))
theorem num7_of {l : List UInt8} {z : Nat} (h : numL l = some z) (h7 : l.length ≤ 7) : num7 l = some z := by rw [num7_short h7]; exact h
theorem ent_rows {rows : List (List Int)} (hsq : Sq 4 rows) (h : ∀ i j, i < 4 → j < 4 → 0 ≤ fn rows i j ∧ fn rows i j < 9973) : Ent 9972 rows := by
  intro i j
  by_cases hi : i < 4
  · by_cases hj : j < 4
    · have := h i j hi hj
      unfold fn at this
      omega
    · have hl := hsq.2 i hi
      have e : (rows.getD i []).getD j 0 = 0 := by
        rw [List.getD_eq_getElem?_getD, List.getElem?_eq_none (by omega)]
        rfl
      rw [e]
      omega
  · have e : rows.getD i [] = [] := by
      rw [List.getD_eq_getElem?_getD, List.getElem?_eq_none (by rw [hsq.1]; omega)]
      rfl
    rw [e]
    simp
theorem RCalledB (x : Int) (h0 : 0 ≤ x) (h7 : x ≤ 7) (w : World) :
    Calls Tryz.prog 33 #[.int .i64 x] w fun e w' => e = .returned (.string (ba (saidL x))) ∧ Below w.heap.size w w' :=
  (RCalled_any x h0 h7 w).mono fun _ _ ⟨h1, h2⟩ => ⟨h1, h2 ▸ Below.refl _ _⟩
theorem cells3 {W : World} {b : Nat} {x y z : Value} {t : TypeId} {f : Nat × Nat} (h : W.heap[b]? = some (.cells #[x, y, z] t f)) : W.cell? ⟨b, 0, none⟩ = some x ∧ W.cell? ⟨b, 1, none⟩ = some y ∧ W.cell? ⟨b, 2, none⟩ = some z :=
  ⟨by simp [World.cell?, h], by simp [World.cell?, h], by simp [World.cell?, h]⟩
theorem free3 {W : World} {b : Nat} {cs : Array Value} {t : TypeId} (h : W.heap[b]? = some (.cells cs t (0, 0))) : W.frozen? ⟨b, 0, none⟩ = false ∧ W.frozen? ⟨b, 1, none⟩ = false ∧ W.frozen? ⟨b, 2, none⟩ = false :=
  ⟨by simp [World.frozen?, h], by simp [World.frozen?, h], by simp [World.frozen?, h]⟩
/-- a block stands beside the store of a whole book -/
theorem put3_block {W : World} {X b : Nat} {o : Obj} (x y z : Value) (h : W.heap[b]? = some o) (hne : b ≠ X) : (put3 W X x y z).heap[b]? = some o := by
  rw [(put3_grown W X x y z).block b (Array.getElem?_eq_some_iff.1 h).1 (fun e => hne (Option.some.inj e))]
  exact h
theorem later_block {W W' : World} {b : Nat} {o : Obj} (hb : Below W.heap.size W W') (h : W.heap[b]? = some o) : W'.heap[b]? = some o := (hb.block b (Array.getElem?_eq_some_iff.1 h).1).trans h
set_option maxRecDepth 100000 in
set_option maxHeartbeats 16000000 in
theorem RAnswer_any (x : ByteArray) (w : World) (B : Nat) (v : Value) (s : BS) (hok : DeskOk s) (h : RefIs w B v s) (hB : B ≤ w.heap.size) (hx : x.size ≤ 3000) :
    Calls Tryz.prog 22 #[v, .string x] w fun e w' => (∃ v', e = .returned (.tuple #[v', .string (ba (answerE x.data.toList s).1)]) ∧ RefIs w' B v' (answerE x.data.toList s).2) ∧ Below w.heap.size w w' := by
  obtain ⟨ii, hi, hz0, hz1, hz2⟩ := info_parts info_int
  rw [answer_ansP]
  have HREF := Lib.hid (fun W (hW : Below w.heap.size w W) => h.call hW)
  have hB' := hB
  obtain ⟨a, cap, rfl, hc4, hown0⟩ := h
  have HOW0 := Lib.hid (fun W (hW : Below w.heap.size w W) => own_rows4 (hown0.call hW))
  have HOK := Lib.hid hok
  have hCT := fun W => RCut_any x 32 W (by omega)
  obtain ⟨ps, hps⟩ : ∃ ps, ps = cutL 32 x.data.toList := ⟨_, rfl⟩
  have HPZ := Lib.hid (fun j => (show (ba (ps.getD j [])).size ≤ 100000 from by rw [hps]; have := piece_size (c := 32) (l := x.data.toList) j; rw [size_list] at this; omega))
  have hpl : ps.length ≤ 3001 := by
    rw [hps, cutL_len]
    have := List.count_le_length (a := (32 : UInt8)) (l := x.data.toList)
    rw [size_list] at this
    omega
  have hne : ps ≠ [] := by rw [hps]; exact cutL_ne _ _
  rw [← hps] at hCT ⊢
  have hpl0 : 0 < ps.length := List.length_pos_iff.2 hne
  obtain ⟨n, hn⟩ : ∃ n, ps.length = n + 1 := ⟨ps.length - 1, by omega⟩
  have hn3 : n ≤ 3000 := by omega
  have HBAD := Lib.hid (fun h => ansP_bad hn s h)
  have HGO := Lib.hid (fun h => ansP_good hn s h)
  have HNO := Lib.hid (fun h => ansP_none hne s h)
  have HCT := Lib.hid hCT
  have HN := Lib.hid hn
  have HW0 := Lib.hid (show Below w.heap.size w ((w.alloc (.cells #[.slice a 4 cap, .string (textOf s.2), .int .i64 (s.2.length : Nat)] 48)).alloc (boxO (.slice none 0 0))) from ((Below.refl _ _).alloc (Nat.le_refl _) _).alloc (by simp) _)
  have HBX := Lib.hid (fun W (hW : Below (w.heap.size + 1 + 1) ((w.alloc (.cells #[.slice a 4 cap, .string (textOf s.2), .int .i64 (s.2.length : Nat)] 48)).alloc (boxO (.slice none 0 0))) W) => (show
      W.cell? ⟨w.heap.size, 0, none⟩ = some (.slice a 4 cap) ∧ W.cell? ⟨w.heap.size, 1, none⟩ = some (.string (textOf s.2)) ∧ W.cell? ⟨w.heap.size, 2, none⟩ = some (.int .i64 (s.2.length : Nat)) ∧
      W.cell? ⟨w.heap.size + 1, 0, none⟩ = some (.slice none 0 0) ∧ W.cell? ⟨w.heap.size + 1, 1, none⟩ = some (.string ⟨#[]⟩) ∧ W.cell? ⟨w.heap.size + 1, 2, none⟩ = some (.int .i64 0) ∧
      W.frozen? ⟨w.heap.size + 1, 0, none⟩ = false ∧ W.frozen? ⟨w.heap.size + 1, 1, none⟩ = false ∧ W.frozen? ⟨w.heap.size + 1, 2, none⟩ = false ∧ W.heap[w.heap.size + 1]? = some (boxO (.slice none 0 0)) from by
    have hlt0 : w.heap.size < (w.alloc (.cells #[.slice a 4 cap, .string (textOf s.2), .int .i64 (s.2.length : Nat)] 48)).heap.size := by simp
    have hbx : W.heap[w.heap.size]? = some (.cells #[.slice a 4 cap, .string (textOf s.2), .int .i64 (s.2.length : Nat)] 48 (0, 0)) := by
      rw [hW.block _ (by omega), heap_alloc_old _ _ hlt0]; exact heap_alloc_new _ _
    have hby : W.heap[w.heap.size + 1]? = some (boxO (.slice none 0 0)) := by
      rw [hW.block _ (by omega)]; exact heap_alloc2_new _ _ _
    exact ⟨by simp [World.cell?, hbx], by simp [World.cell?, hbx], by simp [World.cell?, hbx], by simp [World.cell?, hby], by simp [World.cell?, hby], by simp [World.cell?, hby], by simp [World.frozen?, hby], by simp [World.frozen?, hby], by simp [World.frozen?, hby], hby⟩))
  have HXQ := Lib.hid (fun W (hW : Below (w.heap.size + 1 + 1) ((w.alloc (.cells #[.slice a 4 cap, .string (textOf s.2), .int .i64 (s.2.length : Nat)] 48)).alloc (boxO (.slice none 0 0))) W) => (show W.heap[w.heap.size]? = some (.cells #[.slice a 4 cap, .string (textOf s.2), .int .i64 (s.2.length : Nat)] 48 (0, 0)) from by
    have hlt0 : w.heap.size < (w.alloc (.cells #[.slice a 4 cap, .string (textOf s.2), .int .i64 (s.2.length : Nat)] 48)).heap.size := by simp
    rw [hW.block _ (by omega), heap_alloc_old _ _ hlt0]; exact heap_alloc_new _ _))
  clear hps hok hCT hn hown0 hne hpl
  go_enter Tryz.func22, Tryz.ntmps22
  go_wp2_with fail
  obtain ⟨W0, hW0⟩ : ∃ W0, W0 = (w.alloc (.cells #[.slice a 4 cap, .string (textOf s.2), .int .i64 (s.2.length : Nat)] 48)).alloc (boxO (.slice none 0 0)) := ⟨_, rfl⟩
  rw [← hW0] at HW0 HBX HXQ
  have hs0 : W0.heap.size = w.heap.size + 1 + 1 := by rw [hW0]; simp
  rw [← hW0]
  clear hW0
  go_at_call 30
  refine (HCT.out _).mono ?_
  rintro e W2 ⟨⟨vp, rfl, hop⟩, hb2⟩
  obtain ⟨pg, pc, rfl, hpc, hpgl, hpcell⟩ := own_shape hop hpl0
  have HPC := Lib.hid (fun (W : World) (hW2 : Below W2.heap.size W2 W) i (hi : i < n + 1) => (show W.cell? ⟨pg, i, none⟩ = some (.string (ba (ps.getD i []))) from by
    rw [hW2.cell (p := ⟨pg, i, none⟩) hpgl]
    exact hpcell i _ (by have := HN.out; simp [strsV, show i < ps.length by omega, List.getD])))
  have hb2s := hb2.size
  have HW2 := Lib.hid (show Below (w.heap.size + 1 + 1) W0 W2 from hb2.mono (by omega))
  rw [HN.out]
  clear hop hpcell hpgl hb2 hpl0
  go_wp2_with fail
  go_loopg [7, 8] (n + 1) (fun g lv iv wq => ∃ t : Nat, t ≤ n ∧ n - t < g ∧ iv = .int .i64 ((t : Int) + 1) ∧ OwnInts wq W2.heap.size lv (nvI ps t) ∧ (∀ j, j < t → (num7 (ps.getD (j + 1) [])).isSome = true) ∧ Below W2.heap.size W2 wq)
  case atStart => exact ⟨0, by omega, by omega, rfl, World.ownsRow_nil _ _ _ _, fun j hj => by omega, Below.refl _ _⟩
  case round =>
    obtain ⟨t, ht, hg2, rfl, hown, hsome, hbel⟩ := hrel
    obtain ⟨wq, rfl⟩ : ∃ wq : World, wq = wr := ⟨_, rfl⟩
    have hW : Below (w.heap.size + 1 + 1) W0 wq := HW2.out.trans (hbel.mono (by omega))
    have hbels := hbel.size
    obtain ⟨la, ln, lc, rfl⟩ := OwnInts.isSlice hown
    by_cases htn : t < n
    · have q1 := HPC.out wq hbel (t + 1) (by omega)
      have hti : ((t : Int) + 1) < (n : Int) + 1 := by omega
      have ht0 : (0 : Int) ≤ (t : Int) + 1 := by omega
      have hNU := RNumber_any (ba (ps.getD (t + 1) [])) wq (HPZ.out _)
      have hq3 := fun W h => HPC.out W h (t + 1) (by omega)
      rw [ba_toList] at hNU
      have hpv : nv ps t = (num7 (ps.getD (t + 1) [])).getD 0 := rfl
      have hbadr := fun h => HBAD.out ⟨t, htn, h⟩
      have hszz : (ba (ps.getD (t + 1) [])).size = (ps.getD (t + 1) []).length := ba_size _
      generalize hpc2 : ps.getD (t + 1) [] = pcz at q1 hNU hpv hbadr hq3 hszz
      generalize ba pcz = sz at q1 hNU hq3 hszz
      have HPC2 := Lib.hid hpc2
      have HBR := Lib.hid hbadr
      have HOW := Lib.hid hown
      have HSM := Lib.hid hsome
      have HPV := Lib.hid hpv
      have HQ3 := Lib.hid hq3
      have HSZZ := Lib.hid hszz
      clear hpc2 hbadr hown hsome hpv hq3 hszz
      go_wp2_with fail
      go_at_call 31
      refine hNU.mono ?_
      rintro e W3 ⟨⟨v, rfl, hv⟩, hb3⟩
      have hW3 := hW.trans (hb3.mono (by omega))
      cases hn : numL pcz with
      | none =>
        have HRE := Lib.hid (HBR.out (num7_none hn))
        clear hW
        have hW := hW3
        clear hn hv
        obtain ⟨p0, p1, p2, s0, s1, s2, t0, t1, t2, hby⟩ := HBX.out _ hW
        have hbW := HW0.out.trans (hW.mono (by omega))
        go_wp2_with fail
        (try simp only [Exit.inBlock, Exit.then])
        refine bodyPost_ret (results_cell_row_tmp rfl _ _ (w.heap.size + 1) 48 #[.slice a 4 cap, .string (textOf s.2), .int .i64 (s.2.length : Nat)] (0, 0) _ rfl (box_store3 hby) Tryz.underlying48 rfl (by kernel_rfl)) rfl ?_
        rw [HRE.out]
        exact ⟨⟨_, rfl, HREF.out _ (box_below3 hbW (by omega))⟩, box_below3 hbW (by omega)⟩
      | some z =>
        obtain rfl := hv z hn
        have q3 := HQ3.out W3 (below_trans hbel hb3)
        by_cases h7 : 7 < pcz.length
        · have HRE := Lib.hid (HBR.out (num7_long h7))
          have h7i : (7 : Int) < sz.size := by rw [HSZZ.out]; omega
          clear hW
          have hW := hW3
          clear hn hv h7
          obtain ⟨p0, p1, p2, s0, s1, s2, t0, t1, t2, hby⟩ := HBX.out _ hW
          have hbW := HW0.out.trans (hW.mono (by omega))
          go_wp2_with fail
          (try simp only [Exit.inBlock, Exit.then])
          refine bodyPost_ret (results_cell_row_tmp rfl _ _ (w.heap.size + 1) 48 #[.slice a 4 cap, .string (textOf s.2), .int .i64 (s.2.length : Nat)] (0, 0) _ rfl (box_store3 hby) Tryz.underlying48 rfl (by kernel_rfl)) rfl ?_
          rw [HRE.out]
          exact ⟨⟨_, rfl, HREF.out _ (box_below3 hbW (by omega))⟩, box_below3 hbW (by omega)⟩
        · have h7i : ¬ (7 : Int) < sz.size := by rw [HSZZ.out]; omega
          have hn7 := num7_of hn (by omega)
          have hpvz : nv ps t = z := by rw [HPV.out, hn7]; rfl
          have HSZ := Lib.hid (show (num7 pcz).isSome = true from by rw [hn7]; rfl)
          have HPZV := Lib.hid hpvz
          have HOW3 := Lib.hid (HOW.out.call hb3)
          have hb3s := hb3.size
          clear hn hv hpvz hn7 h7
          go_wp2_with (at_builtin; refine wpList_append_own1 (o := ⟨some 49, _, _, _, _, _⟩) rfl _ _ 62 rfl W2.heap.size 3 ii (.int .i64 0) 8 Tryz.underlying62 hi hz0 hz1 hz2 rfl _ (nvI ps t).length ((nvI ps t).map (Value.int .i64)) rfl (World.ownsRow.alloc HOW3.out _) (some ⟨W3.heap.size, 0, none⟩) 1 1 [.int .i64 z] rfl rfl (fun h => by cases h) (one_new _ _ _) (one_int _ _) (by rw [nvI_len]; unfold maxLen; omega) (by rw [nvI_len]; omega) (le_alloc (Nat.le_trans hbels hb3s) _) ?_; intro v4 w4 hown4 hgrow4)
          have hs4 := OwnInts.snoc rfl hown4
          rw [← HPZV.out, ← nvI_snoc] at hs4
          have hb4 := own_grow (below_trans hbel hb3) HOW3.out hgrow4
          go_roundg (n - t)
          case measure => omega
          case rel =>
            refine ⟨t + 1, by omega, by omega, by go_num, hs4, fun j hj => ?_, hb4⟩
            by_cases hjt : j < t
            · exact HSM.out j hjt
            · obtain rfl : j = t := by omega
              rw [HPC2.out]; exact HSZ.out
    · obtain rfl : n = t := by omega
      have q0 := HPC.out wq hbel 0 (by omega)
      have hAN := HGO.out hsome
      have hnone := HNO.out
      obtain ⟨w0, hw0⟩ : ∃ p, p = ps.getD 0 [] := ⟨_, rfl⟩
      rw [← hw0] at q0 hAN hnone
      rw [HN.out] at hnone
      obtain ⟨a', cap', e, -, -, -, hia⟩ := hown.shape
      have e2 : n = ln := by
        simp only [Value.slice.injEq] at e
        rw [nvI_len] at e
        exact e.2.1.symm
      clear e hia
      subst e2
      have hia : True := trivial
      have hown3 := hown
      clear hsome hown hw0 htn HBAD HGO HNO hg2
      have bd := fun W hW => HBX.out W hW
      rcases word6 w0 with ⟨hw, e1, e2, e3, e4, e5⟩ | ⟨hw, e1, e2, e3, e4, e5⟩ | ⟨hw, e1, e2, e3, e4, e5⟩ | ⟨hw, e1, e2, e3, e4, e5⟩ | ⟨hw, e1, e2, e3, e4, e5⟩ | ⟨hw, e1, e2, e3, e4, e5⟩
      · by_cases hk : n = 3
        · subst hk
          obtain ⟨gl, gc, O, ee, -, hgB, hgO, hgc⟩ := own_shape2 hown3 (by rw [nvI_len]; omega)
          simp only [Value.slice.injEq] at ee
          obtain ⟨rfl, -, rfl⟩ := ee
          have y0 : wq.cell? ⟨gl, 0, none⟩ = some (.int .i64 (nv ps 0 : Nat)) := hgc wq hgO 0 _ rfl
          have y1 : wq.cell? ⟨gl, 1, none⟩ = some (.int .i64 (nv ps 1 : Nat)) := hgc wq hgO 1 _ rfl
          have y2 : wq.cell? ⟨gl, 2, none⟩ = some (.int .i64 (nv ps 2 : Nat)) := hgc wq hgO 2 _ rfl
          have zg : gl < wq.heap.size := (Array.getElem?_eq_some_iff.1 hgO).1
          obtain ⟨-, -, -, -, -, -, -, -, -, hby⟩ := HBX.out _ hW
          have hxq := HXQ.out _ hW
          obtain ⟨p0, p1, p2⟩ := cells3 hxq
          have hbW := HW0.out.trans (hW.mono (by omega))
          have zx : w.heap.size < wq.heap.size := (Array.getElem?_eq_some_iff.1 hxq).1
          have zy : w.heap.size + 1 < wq.heap.size := (Array.getElem?_eq_some_iff.1 hby).1
          have hAN2 : ansP ps s = (saidL (setErr (nv ps 0) (nv ps 1) (nv ps 2) s.2.length), bSet s (nv ps 0) (nv ps 1) (nv ps 2)) := hAN.trans (by rw [hw]; exact (cmdE_3 kSet (nv ps 0) (nv ps 1) (nv ps 2) s).trans (if_pos rfl))
          have hEb := setErr_bd (nv ps 0) (nv ps 1) (nv ps 2) s.2.length
          have hS := fun W (hq : Below wq.heap.size wq W) => RSet_any W B (by have := hbW.size; have := hq.size; omega) _ s HOK.out.ok (HREF.out W (hbW.trans (hq.mono (by have := hbW.size; omega)))) (nv ps 0) (nv ps 1) (nv ps 2)
          generalize setErr (nv ps 0) (nv ps 1) (nv ps 2) s.2.length = E at *
          obtain ⟨sn, hsn⟩ : ∃ sn, sn = bSet s (nv ps 0) (nv ps 1) (nv ps 2) := ⟨_, rfl⟩
          rw [← hsn] at hS hAN2
          have HS := Lib.hid hS
          have HAN := Lib.hid hAN2
          have HEC := Lib.hid (RCalledB E hEb.1 hEb.2)
          generalize nv ps 0 = i0 at *
          generalize nv ps 1 = i1 at *
          generalize nv ps 2 = i2 at *
          have HSS := Lib.hid (fun W (h : Below wq.heap.size wq W) => (show W.cell? ⟨w.heap.size, 0, none⟩ = some (.slice a 4 cap) ∧ W.cell? ⟨w.heap.size, 1, none⟩ = some (.string (textOf s.2)) ∧ W.cell? ⟨w.heap.size, 2, none⟩ = some (.int .i64 (s.2.length : Nat)) ∧ W.cell? ⟨gl, 0, none⟩ = some (.int .i64 (i0 : Nat)) ∧ W.cell? ⟨gl, 1, none⟩ = some (.int .i64 (i1 : Nat)) ∧ W.cell? ⟨gl, 2, none⟩ = some (.int .i64 (i2 : Nat)) from
            ⟨(h.cell (p := ⟨w.heap.size, 0, none⟩) zx).trans p0, (h.cell (p := ⟨w.heap.size, 1, none⟩) zx).trans p1, (h.cell (p := ⟨w.heap.size, 2, none⟩) zx).trans p2, (h.cell (p := ⟨gl, 0, none⟩) zg).trans y0, (h.cell (p := ⟨gl, 1, none⟩) zg).trans y1, (h.cell (p := ⟨gl, 2, none⟩) zg).trans y2⟩))
          have hAL : ∀ o, Below wq.heap.size wq ((wq.alloc o).drew) := fun o => ((Below.refl _ _).alloc (Nat.le_refl _) o).trans Cls.start
          clear hsn hS hAN2 hAN hia hgc hnone bd hown3 hw
          go_upto_region 11 with (fail)
          refine wp_region_held_drew (S := fun w' => w'.cell? ⟨w.heap.size, 0, none⟩ = some (.slice a 4 cap) ∧ w'.cell? ⟨w.heap.size, 1, none⟩ = some (.string (textOf s.2)) ∧ w'.cell? ⟨w.heap.size, 2, none⟩ = some (.int .i64 (s.2.length : Nat)) ∧ w'.cell? ⟨gl, 0, none⟩ = some (.int .i64 (i0 : Nat)) ∧ w'.cell? ⟨gl, 1, none⟩ = some (.int .i64 (i1 : Nat)) ∧ w'.cell? ⟨gl, 2, none⟩ = some (.int .i64 (i2 : Nat))) (by kernel_rfl) (HSS.out _ Cls.start) (fun hHeld => ?_)
          refine wpAnyH_take (i := 0) (v := ?_) rfl (by kernel_rfl) (by kernel_rfl) (by kernel_rfl) (fun _ _ _ h => h) (Or.inl ⟨by rfl, ?_⟩) (by assumption) ?_
          rotate_left
          · (intro w hSw; (try dsimp only at hSw); go_simp; try with_reducible rfl)
          rotate_left
          (try simp only [Act.put, List.setIfInBounds_toArray, List.set_cons_zero, List.set_cons_succ])
          refine wpAnyH_take (i := 1) (v := ?_) rfl (by kernel_rfl) (by kernel_rfl) (by kernel_rfl) (fun _ _ _ h => h) (Or.inl ⟨by rfl, ?_⟩) (by assumption) ?_
          rotate_left
          · (intro w hSw; (try dsimp only at hSw); go_simp; try with_reducible rfl)
          rotate_left
          (try simp only [Act.put, List.setIfInBounds_toArray, List.set_cons_zero, List.set_cons_succ])
          refine wpAnyH_take (i := 2) (v := ?_) rfl (by kernel_rfl) (by kernel_rfl) (by kernel_rfl) (fun _ _ _ h => h) (Or.inl ⟨by rfl, ?_⟩) (by assumption) ?_
          rotate_left
          · (intro w hSw; (try dsimp only at hSw); go_simp; try with_reducible rfl)
          rotate_left
          (try simp only [Act.put, List.setIfInBounds_toArray, List.set_cons_zero, List.set_cons_succ])
          refine wpAnyH_take (i := 3) (v := ?_) rfl (by kernel_rfl) (by kernel_rfl) (by kernel_rfl) (fun _ _ _ h => h) (Or.inl ⟨by rfl, ?_⟩) (by assumption) ?_
          rotate_left
          · (intro w hSw; (try dsimp only at hSw); go_simp; try with_reducible rfl)
          rotate_left
          (try simp only [Act.put, List.setIfInBounds_toArray, List.set_cons_zero, List.set_cons_succ])
          refine wpAnyH_take (i := 4) (v := ?_) rfl (by kernel_rfl) (by kernel_rfl) (by kernel_rfl) (fun _ _ _ h => h) (Or.inl ⟨by rfl, ?_⟩) (by assumption) ?_
          rotate_left
          · (intro w hSw; (try dsimp only at hSw); go_simp; try with_reducible rfl)
          rotate_left
          (try simp only [Act.put, List.setIfInBounds_toArray, List.set_cons_zero, List.set_cons_succ])
          refine wpAnyH_take (i := 5) (v := ?_) rfl (by kernel_rfl) (by kernel_rfl) (by kernel_rfl) (fun _ _ _ h => h) (Or.inl ⟨by rfl, ?_⟩) (by assumption) ?_
          rotate_left
          · (intro w hSw; (try dsimp only at hSw); go_simp; try with_reducible rfl)
          rotate_left
          (try simp only [Act.put, List.setIfInBounds_toArray, List.set_cons_zero, List.set_cons_succ])
          refine wpAnyH_take (i := 6) (v := ?_) rfl (by kernel_rfl) (by kernel_rfl) (by kernel_rfl) (fun _ _ _ h => h) (Or.inl ⟨by rfl, ?_⟩) (by assumption) ?_
          rotate_left
          · (intro w hSw; (try dsimp only at hSw); go_simp; try with_reducible rfl)
          rotate_left
          (try simp only [Act.put, List.setIfInBounds_toArray, List.set_cons_zero, List.set_cons_succ])
          refine wpAnyH_take (i := 7) (v := ?_) rfl (by kernel_rfl) (by kernel_rfl) (by kernel_rfl) (fun _ _ _ h => h) (Or.inl ⟨by rfl, ?_⟩) (by assumption) ?_
          rotate_left
          · (intro w hSw; (try dsimp only at hSw); go_simp; try with_reducible rfl)
          rotate_left
          (try simp only [Act.put, List.setIfInBounds_toArray, List.set_cons_zero, List.set_cons_succ])
          refine wpAnyH_take (i := 8) (v := ?_) rfl (by kernel_rfl) (by kernel_rfl) (by kernel_rfl) (fun _ _ _ h => h) (Or.inl ⟨by rfl, ?_⟩) (by assumption) ?_
          rotate_left
          · (intro w hSw; (try dsimp only at hSw); go_simp; try with_reducible rfl)
          rotate_left
          (try simp only [Act.put, List.setIfInBounds_toArray, List.set_cons_zero, List.set_cons_succ])
          refine wpAnyH_take (i := 9) (v := ?_) rfl (by kernel_rfl) (by kernel_rfl) (by kernel_rfl) (fun _ _ _ h => h) (Or.inl ⟨by rfl, ?_⟩) (by assumption) ?_
          rotate_left
          · (intro w hSw; (try dsimp only at hSw); go_simp; try with_reducible rfl)
          rotate_left
          (try simp only [Act.put, List.setIfInBounds_toArray, List.set_cons_zero, List.set_cons_succ])
          refine wpAnyH_ready (rs := [10, 14]) (by kernel_rfl) (by simp) ?_
          refine AllReadyH.cons rfl (fun K hK => ?_) (AllReadyH.cons rfl (fun K hK => ?_) AllReadyH.nil)
          · go_simp
            go_at_call 32
            refine (HS.out _ (by exact Cls.start)).mono ?_
            rintro e w6 ⟨⟨v6, rfl, hR6⟩, hb6⟩
            obtain ⟨ra6, rc6, rfl, hrc6, hro6⟩ := hR6
            have d1 : Below wq.heap.size wq w6 := below_trans (by exact Cls.start) hb6
            (try go_simp)
            refine hK.out _ _ (HSS.out _ d1) (fun hHeld => ?_)
            clear hK K
            (try simp only [Act.put, List.setIfInBounds_toArray, List.set_cons_zero, List.set_cons_succ])
            have d2 : Below wq.heap.size wq (w6.alloc (boxO (.slice none 0 0))) := d1.alloc d1.size _
            have d3 : Below wq.heap.size wq (w6.alloc (.cells #[.slice ra6 4 rc6, .string (textOf sn.2), .int .i64 (sn.2.length : Nat)] 48)) := d1.alloc d1.size _
            refine wpAnyH_take (i := 11) (v := ?_) rfl (by kernel_rfl) (by kernel_rfl) (by kernel_rfl) (fun _ _ _ h => h) (Or.inl ⟨by rfl, ?_⟩) (by assumption) ?_
            rotate_left
            · (intro w hSw; (try dsimp only at hSw); go_simp; try with_reducible rfl)
            rotate_left
            (try simp only [Act.put, List.setIfInBounds_toArray, List.set_cons_zero, List.set_cons_succ])
            refine wpAnyH_take (i := 12) (v := ?_) rfl (by kernel_rfl) (by kernel_rfl) (by kernel_rfl) (fun _ _ _ h => h) (Or.inl ⟨by rfl, ?_⟩) (by assumption) ?_
            rotate_left
            · (intro w hSw; (try dsimp only at hSw); go_simp; try with_reducible rfl)
            rotate_left
            (try simp only [Act.put, List.setIfInBounds_toArray, List.set_cons_zero, List.set_cons_succ])
            refine wpAnyH_take (i := 13) (v := ?_) rfl (by kernel_rfl) (by kernel_rfl) (by kernel_rfl) (fun _ _ _ h => h) (Or.inl ⟨by rfl, ?_⟩) (by assumption) ?_
            rotate_left
            · (intro w hSw; (try dsimp only at hSw); go_simp; try with_reducible rfl)
            rotate_left
            (try simp only [Act.put, List.setIfInBounds_toArray, List.set_cons_zero, List.set_cons_succ])
            refine wpAnyH_ready (rs := [14]) (by kernel_rfl) (by simp) ?_
            refine AllReadyH.cons rfl (fun K hK => ?_) AllReadyH.nil
            go_simp
            (try go_simp)
            refine hK.out _ _ (HSS.out _ d2) (fun hHeld => ?_)
            clear hK K
            (try simp only [Act.put, List.setIfInBounds_toArray, List.set_cons_zero, List.set_cons_succ])
            refine wpAnyH_ready (rs := [15]) (by kernel_rfl) (by simp) ?_
            refine AllReadyH.cons rfl (fun K hK => ?_) AllReadyH.nil
            go_simp
            (try go_simp)
            refine hK.out _ _ (HSS.out _ d3) (fun hHeld => ?_)
            clear hK K
            (try simp only [Act.put, List.setIfInBounds_toArray, List.set_cons_zero, List.set_cons_succ])
            refine wpAnyH_take (i := 16) (v := ?_) rfl (by kernel_rfl) (by kernel_rfl) (by kernel_rfl) (fun _ _ _ h => h) (Or.inl ⟨by rfl, ?_⟩) (by assumption) ?_
            rotate_left
            · (intro w hSw; (try dsimp only at hSw); go_simp; try with_reducible rfl)
            rotate_left
            (try simp only [Act.put, List.setIfInBounds_toArray, List.set_cons_zero, List.set_cons_succ])
            refine wpAnyH_done (by kernel_rfl) ?_ _
            have hR6 : RefIs w6 B (refV ra6 rc6 (textOf sn.2) sn.2.length) sn := ⟨ra6, rc6, rfl, hrc6, hro6⟩
            have hal : Below w6.heap.size w6 (w6.alloc (.cells #[.slice ra6 4 rc6, .string (textOf sn.2), .int .i64 (sn.2.length : Nat)] 48)) := (Below.refl _ _).alloc (Nat.le_refl _) _
            have hR7 := hR6.call hal
            have hc7 : (w6.alloc (.cells #[.slice ra6 4 rc6, .string (textOf sn.2), .int .i64 (sn.2.length : Nat)] 48)).heap[w6.heap.size]? = some (.cells #[.slice ra6 4 rc6, .string (textOf sn.2), .int .i64 (sn.2.length : Nat)] 48 (0, 0)) := heap_alloc_new _ _
            have hcn : w6.heap.size ≠ w.heap.size + 1 := by have := d1.size; omega
            obtain ⟨c, hc⟩ : ∃ c, c = w6.heap.size := ⟨_, rfl⟩
            rw [← hc] at hc7 hcn ⊢
            generalize w6.alloc (.cells #[.slice ra6 4 rc6, .string (textOf sn.2), .int .i64 (sn.2.length : Nat)] 48) = W7 at *
            clear hc hal hR6 d1 d2 hro6 hrc6 hb6 hHeld
            have hby7 := later_block (W := wq) (d3.mono (Nat.le_refl _)) hby
            have hb07 : Below w.heap.size w W7 := hbW.trans (d3.mono (by omega))
            clear d3
            go_upto_region 12 with (fail)
            refine wp_region_held_drew (S := fun w' => w'.cell? ⟨c, 0, none⟩ = some (.slice ra6 4 rc6) ∧ w'.cell? ⟨c, 1, none⟩ = some (.string (textOf sn.2)) ∧ w'.cell? ⟨c, 2, none⟩ = some (.int .i64 (sn.2.length : Nat))) (by kernel_rfl) (cells3 (W := W7) hc7) (fun hHeld => ?_)
            refine wpAnyH_take (i := 0) (v := ?_) rfl (by kernel_rfl) (by kernel_rfl) (by kernel_rfl) (fun _ _ _ h => h) (Or.inl ⟨by rfl, ?_⟩) (by assumption) ?_
            rotate_left
            · (intro w hSw; (try dsimp only at hSw); go_simp; try with_reducible rfl)
            rotate_left
            (try simp only [Act.put, List.setIfInBounds_toArray, List.set_cons_zero, List.set_cons_succ])
            refine wpAnyH_take (i := 1) (v := ?_) rfl (by kernel_rfl) (by kernel_rfl) (by kernel_rfl) (fun _ _ _ h => h) (Or.inl ⟨by rfl, ?_⟩) (by assumption) ?_
            rotate_left
            · (intro w hSw; (try dsimp only at hSw); go_simp; try with_reducible rfl)
            rotate_left
            (try simp only [Act.put, List.setIfInBounds_toArray, List.set_cons_zero, List.set_cons_succ])
            refine wpAnyH_ready (rs := [2]) (by kernel_rfl) (by simp) ?_
            refine AllReadyH.cons rfl (fun K hK => ?_) AllReadyH.nil
            go_simp
            go_at_call 33
            refine (HEC.out _).mono ?_
            rintro e w8 ⟨rfl, hb8'⟩
            have hb8 : Below W7.heap.size W7 w8 := below_trans Cls.start hb8'
            have hc8 := later_block hb8 hc7
            have hby8 := later_block hb8 hby7
            have hR8 := hR7.call hb8
            have hb08 := below_trans hb07 hb8
            obtain ⟨u0, u1, u2⟩ := cells3 hby8
            obtain ⟨f0, f1, f2⟩ := free3 hby8
            (try go_simp)
            refine hK.out _ _ (cells3 hc8) (fun hHeld => ?_)
            clear hK K
            (try simp only [Act.put, List.setIfInBounds_toArray, List.set_cons_zero, List.set_cons_succ])
            refine wpAnyH_ready (rs := [3]) (by kernel_rfl) (by simp) ?_
            refine AllReadyH.cons rfl (fun K hK => ?_) AllReadyH.nil
            go_simp
            (try go_simp)
            refine hK.out _ _ (cells3 (put3_block _ _ _ hc8 hcn)) (fun hHeld => ?_)
            clear hK K
            (try simp only [Act.put, List.setIfInBounds_toArray, List.set_cons_zero, List.set_cons_succ])
            refine wpAnyH_take (i := 4) (v := ?_) rfl (by kernel_rfl) (by kernel_rfl) (by kernel_rfl) (fun _ _ _ h => h) (Or.inl ⟨by rfl, ?_⟩) (by assumption) ?_
            rotate_left
            · (intro w hSw; (try dsimp only at hSw); go_simp; try with_reducible rfl)
            rotate_left
            (try simp only [Act.put, List.getElem_toArray, List.getElem_cons_succ, List.getElem_cons_zero, List.setIfInBounds_toArray, List.set_cons_zero, List.set_cons_succ])
            refine wpAnyH_done (by kernel_rfl) ?_ _
            go_wp2_with fail
            (try simp only [Exit.inBlock, Exit.then])
            refine bodyPost_ret (results_cell_row_tmp rfl _ _ (w.heap.size + 1) 48 #[.slice ra6 4 rc6, .string (textOf sn.2), .int .i64 (sn.2.length : Nat)] (0, 0) _ rfl (box_store3 hby8) Tryz.underlying48 rfl (by kernel_rfl)) rfl ?_
            rw [HAN.out]
            exact ⟨⟨_, rfl, hR8.other hby8 (put3_grown w8 (w.heap.size + 1) _ _ _)⟩, box_below3 hb08 (by omega)⟩
          · go_simp
            refine hK.out _ _ (HSS.out _ (hAL _)) (fun hHeld => ?_)
            clear hK K
            (try simp only [Act.put, List.setIfInBounds_toArray, List.set_cons_zero, List.set_cons_succ])
            refine wpAnyH_ready (rs := [10]) (by kernel_rfl) (by simp) ?_
            refine AllReadyH.cons rfl (fun K hK => ?_) AllReadyH.nil
            go_simp
            go_at_call 32
            refine (HS.out _ (by exact hAL _)).mono ?_
            rintro e w6 ⟨⟨v6, rfl, hR6⟩, hb6⟩
            obtain ⟨ra6, rc6, rfl, hrc6, hro6⟩ := hR6
            have d1 : Below wq.heap.size wq w6 := below_trans (hAL _) hb6
            obtain ⟨o0, o1, o2, g0, g1, g2⟩ := open_fresh hb6
            (try go_simp)
            refine hK.out _ _ (HSS.out _ d1) (fun hHeld => ?_)
            clear hK K
            (try simp only [Act.put, List.setIfInBounds_toArray, List.set_cons_zero, List.set_cons_succ])
            have d3 : Below wq.heap.size wq (((w6.setCell ⟨wq.heap.size, 0, none⟩ (.slice ra6 4 rc6)).setCell ⟨wq.heap.size, 1, none⟩ (.string (textOf sn.2))).setCell ⟨wq.heap.size, 2, none⟩ (.int .i64 (sn.2.length : Nat))) := open_store3 d1
            refine wpAnyH_take (i := 11) (v := ?_) rfl (by kernel_rfl) (by kernel_rfl) (by kernel_rfl) (fun _ _ _ h => h) (Or.inl ⟨by rfl, ?_⟩) (by assumption) ?_
            rotate_left
            · (intro w hSw; (try dsimp only at hSw); go_simp; try with_reducible rfl)
            rotate_left
            (try simp only [Act.put, List.setIfInBounds_toArray, List.set_cons_zero, List.set_cons_succ])
            refine wpAnyH_take (i := 12) (v := ?_) rfl (by kernel_rfl) (by kernel_rfl) (by kernel_rfl) (fun _ _ _ h => h) (Or.inl ⟨by rfl, ?_⟩) (by assumption) ?_
            rotate_left
            · (intro w hSw; (try dsimp only at hSw); go_simp; try with_reducible rfl)
            rotate_left
            (try simp only [Act.put, List.setIfInBounds_toArray, List.set_cons_zero, List.set_cons_succ])
            refine wpAnyH_take (i := 13) (v := ?_) rfl (by kernel_rfl) (by kernel_rfl) (by kernel_rfl) (fun _ _ _ h => h) (Or.inl ⟨by rfl, ?_⟩) (by assumption) ?_
            rotate_left
            · (intro w hSw; (try dsimp only at hSw); go_simp; try with_reducible rfl)
            rotate_left
            (try simp only [Act.put, List.setIfInBounds_toArray, List.set_cons_zero, List.set_cons_succ])
            refine wpAnyH_ready (rs := [15]) (by kernel_rfl) (by simp) ?_
            refine AllReadyH.cons rfl (fun K hK => ?_) AllReadyH.nil
            go_simp
            (try go_simp)
            refine hK.out _ _ (HSS.out _ d3) (fun hHeld => ?_)
            clear hK K
            (try simp only [Act.put, List.setIfInBounds_toArray, List.set_cons_zero, List.set_cons_succ])
            refine wpAnyH_take (i := 16) (v := ?_) rfl (by kernel_rfl) (by kernel_rfl) (by kernel_rfl) (fun _ _ _ h => h) (Or.inl ⟨by rfl, ?_⟩) (by assumption) ?_
            rotate_left
            · (intro w hSw; (try dsimp only at hSw); go_simp; try with_reducible rfl)
            rotate_left
            (try simp only [Act.put, List.setIfInBounds_toArray, List.set_cons_zero, List.set_cons_succ])
            refine wpAnyH_done (by kernel_rfl) ?_ _
            have hR6 : RefIs w6 B (refV ra6 rc6 (textOf sn.2) sn.2.length) sn := ⟨ra6, rc6, rfl, hrc6, hro6⟩
            have hbx := open_box hb6
            have hR7 := hR6.other hbx (put3_grown w6 wq.heap.size (.slice ra6 4 rc6) (.string (textOf sn.2)) (.int .i64 (sn.2.length : Nat)))
            have hc7 := box_store3 (a := .slice ra6 4 rc6) (b' := .string (textOf sn.2)) (c := .int .i64 (sn.2.length : Nat)) hbx
            have hcn : wq.heap.size ≠ w.heap.size + 1 := by omega
            unfold put3 at hR7
            generalize ((w6.setCell ⟨wq.heap.size, 0, none⟩ (.slice ra6 4 rc6)).setCell ⟨wq.heap.size, 1, none⟩ (.string (textOf sn.2))).setCell ⟨wq.heap.size, 2, none⟩ (.int .i64 (sn.2.length : Nat)) = W7 at *
            obtain ⟨c, hc⟩ : ∃ c, c = wq.heap.size := ⟨_, rfl⟩
            rw [← hc] at hc7 hcn ⊢
            clear hc hbx hR6 d1 hro6 hrc6 hb6 o0 o1 o2 g0 g1 g2
            have hby7 := later_block (W := wq) (d3.mono (Nat.le_refl _)) hby
            have hb07 : Below w.heap.size w W7 := hbW.trans (d3.mono (by omega))
            clear d3
            go_upto_region 12 with (fail)
            refine wp_region_held_drew (S := fun w' => w'.cell? ⟨c, 0, none⟩ = some (.slice ra6 4 rc6) ∧ w'.cell? ⟨c, 1, none⟩ = some (.string (textOf sn.2)) ∧ w'.cell? ⟨c, 2, none⟩ = some (.int .i64 (sn.2.length : Nat))) (by kernel_rfl) (cells3 (W := W7) hc7) (fun hHeld => ?_)
            refine wpAnyH_take (i := 0) (v := ?_) rfl (by kernel_rfl) (by kernel_rfl) (by kernel_rfl) (fun _ _ _ h => h) (Or.inl ⟨by rfl, ?_⟩) (by assumption) ?_
            rotate_left
            · (intro w hSw; (try dsimp only at hSw); go_simp; try with_reducible rfl)
            rotate_left
            (try simp only [Act.put, List.setIfInBounds_toArray, List.set_cons_zero, List.set_cons_succ])
            refine wpAnyH_take (i := 1) (v := ?_) rfl (by kernel_rfl) (by kernel_rfl) (by kernel_rfl) (fun _ _ _ h => h) (Or.inl ⟨by rfl, ?_⟩) (by assumption) ?_
            rotate_left
            · (intro w hSw; (try dsimp only at hSw); go_simp; try with_reducible rfl)
            rotate_left
            (try simp only [Act.put, List.setIfInBounds_toArray, List.set_cons_zero, List.set_cons_succ])
            refine wpAnyH_ready (rs := [2]) (by kernel_rfl) (by simp) ?_
            refine AllReadyH.cons rfl (fun K hK => ?_) AllReadyH.nil
            go_simp
            go_at_call 33
            refine (HEC.out _).mono ?_
            rintro e w8 ⟨rfl, hb8'⟩
            have hb8 : Below W7.heap.size W7 w8 := below_trans Cls.start hb8'
            have hc8 := later_block hb8 hc7
            have hby8 := later_block hb8 hby7
            have hR8 := hR7.call hb8
            have hb08 := below_trans hb07 hb8
            obtain ⟨u0, u1, u2⟩ := cells3 hby8
            obtain ⟨f0, f1, f2⟩ := free3 hby8
            (try go_simp)
            refine hK.out _ _ (cells3 hc8) (fun hHeld => ?_)
            clear hK K
            (try simp only [Act.put, List.setIfInBounds_toArray, List.set_cons_zero, List.set_cons_succ])
            refine wpAnyH_ready (rs := [3]) (by kernel_rfl) (by simp) ?_
            refine AllReadyH.cons rfl (fun K hK => ?_) AllReadyH.nil
            go_simp
            (try go_simp)
            refine hK.out _ _ (cells3 (put3_block _ _ _ hc8 hcn)) (fun hHeld => ?_)
            clear hK K
            (try simp only [Act.put, List.setIfInBounds_toArray, List.set_cons_zero, List.set_cons_succ])
            refine wpAnyH_take (i := 4) (v := ?_) rfl (by kernel_rfl) (by kernel_rfl) (by kernel_rfl) (fun _ _ _ h => h) (Or.inl ⟨by rfl, ?_⟩) (by assumption) ?_
            rotate_left
            · (intro w hSw; (try dsimp only at hSw); go_simp; try with_reducible rfl)
            rotate_left
            (try simp only [Act.put, List.getElem_toArray, List.getElem_cons_succ, List.getElem_cons_zero, List.setIfInBounds_toArray, List.set_cons_zero, List.set_cons_succ])
            refine wpAnyH_done (by kernel_rfl) ?_ _
            go_wp2_with fail
            (try simp only [Exit.inBlock, Exit.then])
            refine bodyPost_ret (results_cell_row_tmp rfl _ _ (w.heap.size + 1) 48 #[.slice ra6 4 rc6, .string (textOf sn.2), .int .i64 (sn.2.length : Nat)] (0, 0) _ rfl (box_store3 hby8) Tryz.underlying48 rfl (by kernel_rfl)) rfl ?_
            rw [HAN.out]
            exact ⟨⟨_, rfl, hR8.other hby8 (put3_grown w8 (w.heap.size + 1) _ _ _)⟩, box_below3 hb08 (by omega)⟩
        · have hkb : ((n : Int) == 3) = false := by rw [beq_eq_false_iff_ne]; omega
          have HRE := Lib.hid (hnone ⟨fun e => hk (by omega), fun e => absurd (hw.symm.trans e.1) (by decide), fun e => absurd (hw.symm.trans e.1) (by decide), fun e => absurd (hw.symm.trans e.1) (by decide), fun e => absurd (hw.symm.trans e.1) (by decide)⟩)
          clear hk hw hia hAN hnone bd hown3
          obtain ⟨p0, p1, p2, s0, s1, s2, t0, t1, t2, hby⟩ := HBX.out _ hW
          have hbW := HW0.out.trans (hW.mono (by omega))
          go_wp2_with fail
          (try simp only [Exit.inBlock, Exit.then])
          refine bodyPost_ret (results_cell_row_tmp rfl _ _ (w.heap.size + 1) 48 #[.slice a 4 cap, .string (textOf s.2), .int .i64 (s.2.length : Nat)] (0, 0) _ rfl (box_store3 hby) Tryz.underlying48 rfl (by kernel_rfl)) rfl ?_
          rw [HRE.out]
          exact ⟨⟨_, rfl, HREF.out _ (box_below3 hbW (by omega))⟩, box_below3 hbW (by omega)⟩
      · by_cases hk : n = 3
        · subst hk
          obtain ⟨gl, gc, O, ee, -, hgB, hgO, hgc⟩ := own_shape2 hown3 (by rw [nvI_len]; omega)
          simp only [Value.slice.injEq] at ee
          obtain ⟨rfl, -, rfl⟩ := ee
          have y0 : wq.cell? ⟨gl, 0, none⟩ = some (.int .i64 (nv ps 0 : Nat)) := hgc wq hgO 0 _ rfl
          have y1 : wq.cell? ⟨gl, 1, none⟩ = some (.int .i64 (nv ps 1 : Nat)) := hgc wq hgO 1 _ rfl
          have y2 : wq.cell? ⟨gl, 2, none⟩ = some (.int .i64 (nv ps 2 : Nat)) := hgc wq hgO 2 _ rfl
          have zg : gl < wq.heap.size := (Array.getElem?_eq_some_iff.1 hgO).1
          obtain ⟨-, -, -, -, -, -, -, -, -, hby⟩ := HBX.out _ hW
          have hxq := HXQ.out _ hW
          obtain ⟨p0, p1, p2⟩ := cells3 hxq
          have hbW := HW0.out.trans (hW.mono (by omega))
          have zx : w.heap.size < wq.heap.size := (Array.getElem?_eq_some_iff.1 hxq).1
          have zy : w.heap.size + 1 < wq.heap.size := (Array.getElem?_eq_some_iff.1 hby).1
          have hAN2 : ansP ps s = (saidL (addErr (nv ps 0) (nv ps 1) (nv ps 2) s.2.length), bAdd s (nv ps 0) (nv ps 1) (nv ps 2)) := hAN.trans (by rw [hw]; exact (cmdE_3 kAdd (nv ps 0) (nv ps 1) (nv ps 2) s).trans ((if_neg (by decide)).trans (if_pos rfl)))
          have hEb := addErr_bd (nv ps 0) (nv ps 1) (nv ps 2) s.2.length
          have hS := fun W (hq : Below wq.heap.size wq W) => RAdd_any W B (by have := hbW.size; have := hq.size; omega) _ s HOK.out.ok (HREF.out W (hbW.trans (hq.mono (by have := hbW.size; omega)))) (nv ps 0) (nv ps 1) (nv ps 2)
          generalize addErr (nv ps 0) (nv ps 1) (nv ps 2) s.2.length = E at *
          obtain ⟨sn, hsn⟩ : ∃ sn, sn = bAdd s (nv ps 0) (nv ps 1) (nv ps 2) := ⟨_, rfl⟩
          rw [← hsn] at hS hAN2
          have HS := Lib.hid hS
          have HAN := Lib.hid hAN2
          have HEC := Lib.hid (RCalledB E hEb.1 hEb.2)
          generalize nv ps 0 = i0 at *
          generalize nv ps 1 = i1 at *
          generalize nv ps 2 = i2 at *
          have HSS := Lib.hid (fun W (h : Below wq.heap.size wq W) => (show W.cell? ⟨w.heap.size, 0, none⟩ = some (.slice a 4 cap) ∧ W.cell? ⟨w.heap.size, 1, none⟩ = some (.string (textOf s.2)) ∧ W.cell? ⟨w.heap.size, 2, none⟩ = some (.int .i64 (s.2.length : Nat)) ∧ W.cell? ⟨gl, 0, none⟩ = some (.int .i64 (i0 : Nat)) ∧ W.cell? ⟨gl, 1, none⟩ = some (.int .i64 (i1 : Nat)) ∧ W.cell? ⟨gl, 2, none⟩ = some (.int .i64 (i2 : Nat)) from
            ⟨(h.cell (p := ⟨w.heap.size, 0, none⟩) zx).trans p0, (h.cell (p := ⟨w.heap.size, 1, none⟩) zx).trans p1, (h.cell (p := ⟨w.heap.size, 2, none⟩) zx).trans p2, (h.cell (p := ⟨gl, 0, none⟩) zg).trans y0, (h.cell (p := ⟨gl, 1, none⟩) zg).trans y1, (h.cell (p := ⟨gl, 2, none⟩) zg).trans y2⟩))
          have hAL : ∀ o, Below wq.heap.size wq ((wq.alloc o).drew) := fun o => ((Below.refl _ _).alloc (Nat.le_refl _) o).trans Cls.start
          clear hsn hS hAN2 hAN hia hgc hnone bd hown3 hw
          go_upto_region 14 with (fail)
          refine wp_region_held_drew (S := fun w' => w'.cell? ⟨w.heap.size, 0, none⟩ = some (.slice a 4 cap) ∧ w'.cell? ⟨w.heap.size, 1, none⟩ = some (.string (textOf s.2)) ∧ w'.cell? ⟨w.heap.size, 2, none⟩ = some (.int .i64 (s.2.length : Nat)) ∧ w'.cell? ⟨gl, 0, none⟩ = some (.int .i64 (i0 : Nat)) ∧ w'.cell? ⟨gl, 1, none⟩ = some (.int .i64 (i1 : Nat)) ∧ w'.cell? ⟨gl, 2, none⟩ = some (.int .i64 (i2 : Nat))) (by kernel_rfl) (HSS.out _ Cls.start) (fun hHeld => ?_)
          refine wpAnyH_take (i := 0) (v := ?_) rfl (by kernel_rfl) (by kernel_rfl) (by kernel_rfl) (fun _ _ _ h => h) (Or.inl ⟨by rfl, ?_⟩) (by assumption) ?_
          rotate_left
          · (intro w hSw; (try dsimp only at hSw); go_simp; try with_reducible rfl)
          rotate_left
          (try simp only [Act.put, List.setIfInBounds_toArray, List.set_cons_zero, List.set_cons_succ])
          refine wpAnyH_take (i := 1) (v := ?_) rfl (by kernel_rfl) (by kernel_rfl) (by kernel_rfl) (fun _ _ _ h => h) (Or.inl ⟨by rfl, ?_⟩) (by assumption) ?_
          rotate_left
          · (intro w hSw; (try dsimp only at hSw); go_simp; try with_reducible rfl)
          rotate_left
          (try simp only [Act.put, List.setIfInBounds_toArray, List.set_cons_zero, List.set_cons_succ])
          refine wpAnyH_take (i := 2) (v := ?_) rfl (by kernel_rfl) (by kernel_rfl) (by kernel_rfl) (fun _ _ _ h => h) (Or.inl ⟨by rfl, ?_⟩) (by assumption) ?_
          rotate_left
          · (intro w hSw; (try dsimp only at hSw); go_simp; try with_reducible rfl)
          rotate_left
          (try simp only [Act.put, List.setIfInBounds_toArray, List.set_cons_zero, List.set_cons_succ])
          refine wpAnyH_take (i := 3) (v := ?_) rfl (by kernel_rfl) (by kernel_rfl) (by kernel_rfl) (fun _ _ _ h => h) (Or.inl ⟨by rfl, ?_⟩) (by assumption) ?_
          rotate_left
          · (intro w hSw; (try dsimp only at hSw); go_simp; try with_reducible rfl)
          rotate_left
          (try simp only [Act.put, List.setIfInBounds_toArray, List.set_cons_zero, List.set_cons_succ])
          refine wpAnyH_take (i := 4) (v := ?_) rfl (by kernel_rfl) (by kernel_rfl) (by kernel_rfl) (fun _ _ _ h => h) (Or.inl ⟨by rfl, ?_⟩) (by assumption) ?_
          rotate_left
          · (intro w hSw; (try dsimp only at hSw); go_simp; try with_reducible rfl)
          rotate_left
          (try simp only [Act.put, List.setIfInBounds_toArray, List.set_cons_zero, List.set_cons_succ])
          refine wpAnyH_take (i := 5) (v := ?_) rfl (by kernel_rfl) (by kernel_rfl) (by kernel_rfl) (fun _ _ _ h => h) (Or.inl ⟨by rfl, ?_⟩) (by assumption) ?_
          rotate_left
          · (intro w hSw; (try dsimp only at hSw); go_simp; try with_reducible rfl)
          rotate_left
          (try simp only [Act.put, List.setIfInBounds_toArray, List.set_cons_zero, List.set_cons_succ])
          refine wpAnyH_take (i := 6) (v := ?_) rfl (by kernel_rfl) (by kernel_rfl) (by kernel_rfl) (fun _ _ _ h => h) (Or.inl ⟨by rfl, ?_⟩) (by assumption) ?_
          rotate_left
          · (intro w hSw; (try dsimp only at hSw); go_simp; try with_reducible rfl)
          rotate_left
          (try simp only [Act.put, List.setIfInBounds_toArray, List.set_cons_zero, List.set_cons_succ])
          refine wpAnyH_take (i := 7) (v := ?_) rfl (by kernel_rfl) (by kernel_rfl) (by kernel_rfl) (fun _ _ _ h => h) (Or.inl ⟨by rfl, ?_⟩) (by assumption) ?_
          rotate_left
          · (intro w hSw; (try dsimp only at hSw); go_simp; try with_reducible rfl)
          rotate_left
          (try simp only [Act.put, List.setIfInBounds_toArray, List.set_cons_zero, List.set_cons_succ])
          refine wpAnyH_take (i := 8) (v := ?_) rfl (by kernel_rfl) (by kernel_rfl) (by kernel_rfl) (fun _ _ _ h => h) (Or.inl ⟨by rfl, ?_⟩) (by assumption) ?_
          rotate_left
          · (intro w hSw; (try dsimp only at hSw); go_simp; try with_reducible rfl)
          rotate_left
          (try simp only [Act.put, List.setIfInBounds_toArray, List.set_cons_zero, List.set_cons_succ])
          refine wpAnyH_take (i := 9) (v := ?_) rfl (by kernel_rfl) (by kernel_rfl) (by kernel_rfl) (fun _ _ _ h => h) (Or.inl ⟨by rfl, ?_⟩) (by assumption) ?_
          rotate_left
          · (intro w hSw; (try dsimp only at hSw); go_simp; try with_reducible rfl)
          rotate_left
          (try simp only [Act.put, List.setIfInBounds_toArray, List.set_cons_zero, List.set_cons_succ])
          refine wpAnyH_ready (rs := [10, 14]) (by kernel_rfl) (by simp) ?_
          refine AllReadyH.cons rfl (fun K hK => ?_) (AllReadyH.cons rfl (fun K hK => ?_) AllReadyH.nil)
          · go_simp
            go_at_call 34
            refine (HS.out _ (by exact Cls.start)).mono ?_
            rintro e w6 ⟨⟨v6, rfl, hR6⟩, hb6⟩
            obtain ⟨ra6, rc6, rfl, hrc6, hro6⟩ := hR6
            have d1 : Below wq.heap.size wq w6 := below_trans (by exact Cls.start) hb6
            (try go_simp)
            refine hK.out _ _ (HSS.out _ d1) (fun hHeld => ?_)
            clear hK K
            (try simp only [Act.put, List.setIfInBounds_toArray, List.set_cons_zero, List.set_cons_succ])
            have d2 : Below wq.heap.size wq (w6.alloc (boxO (.slice none 0 0))) := d1.alloc d1.size _
            have d3 : Below wq.heap.size wq (w6.alloc (.cells #[.slice ra6 4 rc6, .string (textOf sn.2), .int .i64 (sn.2.length : Nat)] 48)) := d1.alloc d1.size _
            refine wpAnyH_take (i := 11) (v := ?_) rfl (by kernel_rfl) (by kernel_rfl) (by kernel_rfl) (fun _ _ _ h => h) (Or.inl ⟨by rfl, ?_⟩) (by assumption) ?_
            rotate_left
            · (intro w hSw; (try dsimp only at hSw); go_simp; try with_reducible rfl)
            rotate_left
            (try simp only [Act.put, List.setIfInBounds_toArray, List.set_cons_zero, List.set_cons_succ])
            refine wpAnyH_take (i := 12) (v := ?_) rfl (by kernel_rfl) (by kernel_rfl) (by kernel_rfl) (fun _ _ _ h => h) (Or.inl ⟨by rfl, ?_⟩) (by assumption) ?_
            rotate_left
            · (intro w hSw; (try dsimp only at hSw); go_simp; try with_reducible rfl)
            rotate_left
            (try simp only [Act.put, List.setIfInBounds_toArray, List.set_cons_zero, List.set_cons_succ])
            refine wpAnyH_take (i := 13) (v := ?_) rfl (by kernel_rfl) (by kernel_rfl) (by kernel_rfl) (fun _ _ _ h => h) (Or.inl ⟨by rfl, ?_⟩) (by assumption) ?_
            rotate_left
            · (intro w hSw; (try dsimp only at hSw); go_simp; try with_reducible rfl)
            rotate_left
            (try simp only [Act.put, List.setIfInBounds_toArray, List.set_cons_zero, List.set_cons_succ])
            refine wpAnyH_ready (rs := [14]) (by kernel_rfl) (by simp) ?_
            refine AllReadyH.cons rfl (fun K hK => ?_) AllReadyH.nil
            go_simp
            (try go_simp)
            refine hK.out _ _ (HSS.out _ d2) (fun hHeld => ?_)
            clear hK K
            (try simp only [Act.put, List.setIfInBounds_toArray, List.set_cons_zero, List.set_cons_succ])
            refine wpAnyH_ready (rs := [15]) (by kernel_rfl) (by simp) ?_
            refine AllReadyH.cons rfl (fun K hK => ?_) AllReadyH.nil
            go_simp
            (try go_simp)
            refine hK.out _ _ (HSS.out _ d3) (fun hHeld => ?_)
            clear hK K
            (try simp only [Act.put, List.setIfInBounds_toArray, List.set_cons_zero, List.set_cons_succ])
            refine wpAnyH_take (i := 16) (v := ?_) rfl (by kernel_rfl) (by kernel_rfl) (by kernel_rfl) (fun _ _ _ h => h) (Or.inl ⟨by rfl, ?_⟩) (by assumption) ?_
            rotate_left
            · (intro w hSw; (try dsimp only at hSw); go_simp; try with_reducible rfl)
            rotate_left
            (try simp only [Act.put, List.setIfInBounds_toArray, List.set_cons_zero, List.set_cons_succ])
            refine wpAnyH_done (by kernel_rfl) ?_ _
            have hR6 : RefIs w6 B (refV ra6 rc6 (textOf sn.2) sn.2.length) sn := ⟨ra6, rc6, rfl, hrc6, hro6⟩
            have hal : Below w6.heap.size w6 (w6.alloc (.cells #[.slice ra6 4 rc6, .string (textOf sn.2), .int .i64 (sn.2.length : Nat)] 48)) := (Below.refl _ _).alloc (Nat.le_refl _) _
            have hR7 := hR6.call hal
            have hc7 : (w6.alloc (.cells #[.slice ra6 4 rc6, .string (textOf sn.2), .int .i64 (sn.2.length : Nat)] 48)).heap[w6.heap.size]? = some (.cells #[.slice ra6 4 rc6, .string (textOf sn.2), .int .i64 (sn.2.length : Nat)] 48 (0, 0)) := heap_alloc_new _ _
            have hcn : w6.heap.size ≠ w.heap.size + 1 := by have := d1.size; omega
            obtain ⟨c, hc⟩ : ∃ c, c = w6.heap.size := ⟨_, rfl⟩
            rw [← hc] at hc7 hcn ⊢
            generalize w6.alloc (.cells #[.slice ra6 4 rc6, .string (textOf sn.2), .int .i64 (sn.2.length : Nat)] 48) = W7 at *
            clear hc hal hR6 d1 d2 hro6 hrc6 hb6 hHeld
            have hby7 := later_block (W := wq) (d3.mono (Nat.le_refl _)) hby
            have hb07 : Below w.heap.size w W7 := hbW.trans (d3.mono (by omega))
            clear d3
            go_upto_region 15 with (fail)
            refine wp_region_held_drew (S := fun w' => w'.cell? ⟨c, 0, none⟩ = some (.slice ra6 4 rc6) ∧ w'.cell? ⟨c, 1, none⟩ = some (.string (textOf sn.2)) ∧ w'.cell? ⟨c, 2, none⟩ = some (.int .i64 (sn.2.length : Nat))) (by kernel_rfl) (cells3 (W := W7) hc7) (fun hHeld => ?_)
            refine wpAnyH_take (i := 0) (v := ?_) rfl (by kernel_rfl) (by kernel_rfl) (by kernel_rfl) (fun _ _ _ h => h) (Or.inl ⟨by rfl, ?_⟩) (by assumption) ?_
            rotate_left
            · (intro w hSw; (try dsimp only at hSw); go_simp; try with_reducible rfl)
            rotate_left
            (try simp only [Act.put, List.setIfInBounds_toArray, List.set_cons_zero, List.set_cons_succ])
            refine wpAnyH_take (i := 1) (v := ?_) rfl (by kernel_rfl) (by kernel_rfl) (by kernel_rfl) (fun _ _ _ h => h) (Or.inl ⟨by rfl, ?_⟩) (by assumption) ?_
            rotate_left
            · (intro w hSw; (try dsimp only at hSw); go_simp; try with_reducible rfl)
            rotate_left
            (try simp only [Act.put, List.setIfInBounds_toArray, List.set_cons_zero, List.set_cons_succ])
            refine wpAnyH_ready (rs := [2]) (by kernel_rfl) (by simp) ?_
            refine AllReadyH.cons rfl (fun K hK => ?_) AllReadyH.nil
            go_simp
            go_at_call 33
            refine (HEC.out _).mono ?_
            rintro e w8 ⟨rfl, hb8'⟩
            have hb8 : Below W7.heap.size W7 w8 := below_trans Cls.start hb8'
            have hc8 := later_block hb8 hc7
            have hby8 := later_block hb8 hby7
            have hR8 := hR7.call hb8
            have hb08 := below_trans hb07 hb8
            obtain ⟨u0, u1, u2⟩ := cells3 hby8
            obtain ⟨f0, f1, f2⟩ := free3 hby8
            (try go_simp)
            refine hK.out _ _ (cells3 hc8) (fun hHeld => ?_)
            clear hK K
            (try simp only [Act.put, List.setIfInBounds_toArray, List.set_cons_zero, List.set_cons_succ])
            refine wpAnyH_ready (rs := [3]) (by kernel_rfl) (by simp) ?_
            refine AllReadyH.cons rfl (fun K hK => ?_) AllReadyH.nil
            go_simp
            (try go_simp)
            refine hK.out _ _ (cells3 (put3_block _ _ _ hc8 hcn)) (fun hHeld => ?_)
            clear hK K
            (try simp only [Act.put, List.setIfInBounds_toArray, List.set_cons_zero, List.set_cons_succ])
            refine wpAnyH_take (i := 4) (v := ?_) rfl (by kernel_rfl) (by kernel_rfl) (by kernel_rfl) (fun _ _ _ h => h) (Or.inl ⟨by rfl, ?_⟩) (by assumption) ?_
            rotate_left
            · (intro w hSw; (try dsimp only at hSw); go_simp; try with_reducible rfl)
            rotate_left
            (try simp only [Act.put, List.getElem_toArray, List.getElem_cons_succ, List.getElem_cons_zero, List.setIfInBounds_toArray, List.set_cons_zero, List.set_cons_succ])
            refine wpAnyH_done (by kernel_rfl) ?_ _
            go_wp2_with fail
            (try simp only [Exit.inBlock, Exit.then])
            refine bodyPost_ret (results_cell_row_tmp rfl _ _ (w.heap.size + 1) 48 #[.slice ra6 4 rc6, .string (textOf sn.2), .int .i64 (sn.2.length : Nat)] (0, 0) _ rfl (box_store3 hby8) Tryz.underlying48 rfl (by kernel_rfl)) rfl ?_
            rw [HAN.out]
            exact ⟨⟨_, rfl, hR8.other hby8 (put3_grown w8 (w.heap.size + 1) _ _ _)⟩, box_below3 hb08 (by omega)⟩
          · go_simp
            refine hK.out _ _ (HSS.out _ (hAL _)) (fun hHeld => ?_)
            clear hK K
            (try simp only [Act.put, List.setIfInBounds_toArray, List.set_cons_zero, List.set_cons_succ])
            refine wpAnyH_ready (rs := [10]) (by kernel_rfl) (by simp) ?_
            refine AllReadyH.cons rfl (fun K hK => ?_) AllReadyH.nil
            go_simp
            go_at_call 34
            refine (HS.out _ (by exact hAL _)).mono ?_
            rintro e w6 ⟨⟨v6, rfl, hR6⟩, hb6⟩
            obtain ⟨ra6, rc6, rfl, hrc6, hro6⟩ := hR6
            have d1 : Below wq.heap.size wq w6 := below_trans (hAL _) hb6
            obtain ⟨o0, o1, o2, g0, g1, g2⟩ := open_fresh hb6
            (try go_simp)
            refine hK.out _ _ (HSS.out _ d1) (fun hHeld => ?_)
            clear hK K
            (try simp only [Act.put, List.setIfInBounds_toArray, List.set_cons_zero, List.set_cons_succ])
            have d3 : Below wq.heap.size wq (((w6.setCell ⟨wq.heap.size, 0, none⟩ (.slice ra6 4 rc6)).setCell ⟨wq.heap.size, 1, none⟩ (.string (textOf sn.2))).setCell ⟨wq.heap.size, 2, none⟩ (.int .i64 (sn.2.length : Nat))) := open_store3 d1
            refine wpAnyH_take (i := 11) (v := ?_) rfl (by kernel_rfl) (by kernel_rfl) (by kernel_rfl) (fun _ _ _ h => h) (Or.inl ⟨by rfl, ?_⟩) (by assumption) ?_
            rotate_left
            · (intro w hSw; (try dsimp only at hSw); go_simp; try with_reducible rfl)
            rotate_left
            (try simp only [Act.put, List.setIfInBounds_toArray, List.set_cons_zero, List.set_cons_succ])
            refine wpAnyH_take (i := 12) (v := ?_) rfl (by kernel_rfl) (by kernel_rfl) (by kernel_rfl) (fun _ _ _ h => h) (Or.inl ⟨by rfl, ?_⟩) (by assumption) ?_
            rotate_left
            · (intro w hSw; (try dsimp only at hSw); go_simp; try with_reducible rfl)
            rotate_left
            (try simp only [Act.put, List.setIfInBounds_toArray, List.set_cons_zero, List.set_cons_succ])
            refine wpAnyH_take (i := 13) (v := ?_) rfl (by kernel_rfl) (by kernel_rfl) (by kernel_rfl) (fun _ _ _ h => h) (Or.inl ⟨by rfl, ?_⟩) (by assumption) ?_
            rotate_left
            · (intro w hSw; (try dsimp only at hSw); go_simp; try with_reducible rfl)
            rotate_left
            (try simp only [Act.put, List.setIfInBounds_toArray, List.set_cons_zero, List.set_cons_succ])
            refine wpAnyH_ready (rs := [15]) (by kernel_rfl) (by simp) ?_
            refine AllReadyH.cons rfl (fun K hK => ?_) AllReadyH.nil
            go_simp
            (try go_simp)
            refine hK.out _ _ (HSS.out _ d3) (fun hHeld => ?_)
            clear hK K
            (try simp only [Act.put, List.setIfInBounds_toArray, List.set_cons_zero, List.set_cons_succ])
            refine wpAnyH_take (i := 16) (v := ?_) rfl (by kernel_rfl) (by kernel_rfl) (by kernel_rfl) (fun _ _ _ h => h) (Or.inl ⟨by rfl, ?_⟩) (by assumption) ?_
            rotate_left
            · (intro w hSw; (try dsimp only at hSw); go_simp; try with_reducible rfl)
            rotate_left
            (try simp only [Act.put, List.setIfInBounds_toArray, List.set_cons_zero, List.set_cons_succ])
            refine wpAnyH_done (by kernel_rfl) ?_ _
            have hR6 : RefIs w6 B (refV ra6 rc6 (textOf sn.2) sn.2.length) sn := ⟨ra6, rc6, rfl, hrc6, hro6⟩
            have hbx := open_box hb6
            have hR7 := hR6.other hbx (put3_grown w6 wq.heap.size (.slice ra6 4 rc6) (.string (textOf sn.2)) (.int .i64 (sn.2.length : Nat)))
            have hc7 := box_store3 (a := .slice ra6 4 rc6) (b' := .string (textOf sn.2)) (c := .int .i64 (sn.2.length : Nat)) hbx
            have hcn : wq.heap.size ≠ w.heap.size + 1 := by omega
            unfold put3 at hR7
            generalize ((w6.setCell ⟨wq.heap.size, 0, none⟩ (.slice ra6 4 rc6)).setCell ⟨wq.heap.size, 1, none⟩ (.string (textOf sn.2))).setCell ⟨wq.heap.size, 2, none⟩ (.int .i64 (sn.2.length : Nat)) = W7 at *
            obtain ⟨c, hc⟩ : ∃ c, c = wq.heap.size := ⟨_, rfl⟩
            rw [← hc] at hc7 hcn ⊢
            clear hc hbx hR6 d1 hro6 hrc6 hb6 o0 o1 o2 g0 g1 g2
            have hby7 := later_block (W := wq) (d3.mono (Nat.le_refl _)) hby
            have hb07 : Below w.heap.size w W7 := hbW.trans (d3.mono (by omega))
            clear d3
            go_upto_region 15 with (fail)
            refine wp_region_held_drew (S := fun w' => w'.cell? ⟨c, 0, none⟩ = some (.slice ra6 4 rc6) ∧ w'.cell? ⟨c, 1, none⟩ = some (.string (textOf sn.2)) ∧ w'.cell? ⟨c, 2, none⟩ = some (.int .i64 (sn.2.length : Nat))) (by kernel_rfl) (cells3 (W := W7) hc7) (fun hHeld => ?_)
            refine wpAnyH_take (i := 0) (v := ?_) rfl (by kernel_rfl) (by kernel_rfl) (by kernel_rfl) (fun _ _ _ h => h) (Or.inl ⟨by rfl, ?_⟩) (by assumption) ?_
            rotate_left
            · (intro w hSw; (try dsimp only at hSw); go_simp; try with_reducible rfl)
            rotate_left
            (try simp only [Act.put, List.setIfInBounds_toArray, List.set_cons_zero, List.set_cons_succ])
            refine wpAnyH_take (i := 1) (v := ?_) rfl (by kernel_rfl) (by kernel_rfl) (by kernel_rfl) (fun _ _ _ h => h) (Or.inl ⟨by rfl, ?_⟩) (by assumption) ?_
            rotate_left
            · (intro w hSw; (try dsimp only at hSw); go_simp; try with_reducible rfl)
            rotate_left
            (try simp only [Act.put, List.setIfInBounds_toArray, List.set_cons_zero, List.set_cons_succ])
            refine wpAnyH_ready (rs := [2]) (by kernel_rfl) (by simp) ?_
            refine AllReadyH.cons rfl (fun K hK => ?_) AllReadyH.nil
            go_simp
            go_at_call 33
            refine (HEC.out _).mono ?_
            rintro e w8 ⟨rfl, hb8'⟩
            have hb8 : Below W7.heap.size W7 w8 := below_trans Cls.start hb8'
            have hc8 := later_block hb8 hc7
            have hby8 := later_block hb8 hby7
            have hR8 := hR7.call hb8
            have hb08 := below_trans hb07 hb8
            obtain ⟨u0, u1, u2⟩ := cells3 hby8
            obtain ⟨f0, f1, f2⟩ := free3 hby8
            (try go_simp)
            refine hK.out _ _ (cells3 hc8) (fun hHeld => ?_)
            clear hK K
            (try simp only [Act.put, List.setIfInBounds_toArray, List.set_cons_zero, List.set_cons_succ])
            refine wpAnyH_ready (rs := [3]) (by kernel_rfl) (by simp) ?_
            refine AllReadyH.cons rfl (fun K hK => ?_) AllReadyH.nil
            go_simp
            (try go_simp)
            refine hK.out _ _ (cells3 (put3_block _ _ _ hc8 hcn)) (fun hHeld => ?_)
            clear hK K
            (try simp only [Act.put, List.setIfInBounds_toArray, List.set_cons_zero, List.set_cons_succ])
            refine wpAnyH_take (i := 4) (v := ?_) rfl (by kernel_rfl) (by kernel_rfl) (by kernel_rfl) (fun _ _ _ h => h) (Or.inl ⟨by rfl, ?_⟩) (by assumption) ?_
            rotate_left
            · (intro w hSw; (try dsimp only at hSw); go_simp; try with_reducible rfl)
            rotate_left
            (try simp only [Act.put, List.getElem_toArray, List.getElem_cons_succ, List.getElem_cons_zero, List.setIfInBounds_toArray, List.set_cons_zero, List.set_cons_succ])
            refine wpAnyH_done (by kernel_rfl) ?_ _
            go_wp2_with fail
            (try simp only [Exit.inBlock, Exit.then])
            refine bodyPost_ret (results_cell_row_tmp rfl _ _ (w.heap.size + 1) 48 #[.slice ra6 4 rc6, .string (textOf sn.2), .int .i64 (sn.2.length : Nat)] (0, 0) _ rfl (box_store3 hby8) Tryz.underlying48 rfl (by kernel_rfl)) rfl ?_
            rw [HAN.out]
            exact ⟨⟨_, rfl, hR8.other hby8 (put3_grown w8 (w.heap.size + 1) _ _ _)⟩, box_below3 hb08 (by omega)⟩
        · have hkb : ((n : Int) == 3) = false := by rw [beq_eq_false_iff_ne]; omega
          have HRE := Lib.hid (hnone ⟨fun e => absurd (hw.symm.trans e.1) (by decide), fun e => hk (by omega), fun e => absurd (hw.symm.trans e.1) (by decide), fun e => absurd (hw.symm.trans e.1) (by decide), fun e => absurd (hw.symm.trans e.1) (by decide)⟩)
          clear hk hw hia hAN hnone bd hown3
          obtain ⟨p0, p1, p2, s0, s1, s2, t0, t1, t2, hby⟩ := HBX.out _ hW
          have hbW := HW0.out.trans (hW.mono (by omega))
          go_wp2_with fail
          (try simp only [Exit.inBlock, Exit.then])
          refine bodyPost_ret (results_cell_row_tmp rfl _ _ (w.heap.size + 1) 48 #[.slice a 4 cap, .string (textOf s.2), .int .i64 (s.2.length : Nat)] (0, 0) _ rfl (box_store3 hby) Tryz.underlying48 rfl (by kernel_rfl)) rfl ?_
          rw [HRE.out]
          exact ⟨⟨_, rfl, HREF.out _ (box_below3 hbW (by omega))⟩, box_below3 hbW (by omega)⟩
      · by_cases hk : n = 2
        · subst hk
          obtain ⟨gl, gc, O, ee, -, hgB, hgO, hgc⟩ := own_shape2 hown3 (by rw [nvI_len]; omega)
          simp only [Value.slice.injEq] at ee
          obtain ⟨rfl, -, rfl⟩ := ee
          have y0 : wq.cell? ⟨gl, 0, none⟩ = some (.int .i64 (nv ps 0 : Nat)) := hgc wq hgO 0 _ rfl
          have y1 : wq.cell? ⟨gl, 1, none⟩ = some (.int .i64 (nv ps 1 : Nat)) := hgc wq hgO 1 _ rfl
          have hgy : ∀ W : World, W.heap[gl]? = some O → ∀ (i : Nat) (u : Value), [Value.int .i64 (nv ps 0 : Nat), Value.int .i64 (nv ps 1 : Nat)][i]? = some u → W.cell? ⟨gl, i, none⟩ = some u := hgc
          obtain ⟨-, -, -, -, -, -, -, -, -, hby⟩ := HBX.out _ hW
          have hxq := HXQ.out _ hW
          obtain ⟨p0, p1, p2⟩ := cells3 hxq
          have hbW := HW0.out.trans (hW.mono (by omega))
          have zx : w.heap.size < wq.heap.size := (Array.getElem?_eq_some_iff.1 hxq).1
          have zy : w.heap.size + 1 < wq.heap.size := (Array.getElem?_eq_some_iff.1 hby).1
          have hAN2 : ansP ps s = (if 3 < nv ps 0 ∨ 3 < nv ps 1 then (nameL 1, s) else (Lib.decDigits (fn s.1 (nv ps 0) (nv ps 1)).toNat, s)) := hAN.trans (by rw [hw]; exact (cmdE_2 kGet (nv ps 0) (nv ps 1) s).trans (if_pos rfl))
          clear hgc hAN
          have hAN := hAN2
          have hgc := hgy
          generalize nv ps 0 = i0 at *
          generalize nv ps 1 = i1 at *
          by_cases hb : 3 < i0 ∨ 3 < i1
          · have HAN := Lib.hid (hAN2.trans (if_pos hb))
            have HEC := Lib.hid (RCalledB 1 (by omega) (by omega))
            have hcs : (3 : Int) < (i0 : Int) ∨ (¬ (3 : Int) < (i0 : Int) ∧ (3 : Int) < (i1 : Int)) := by omega
            clear hAN2 hAN hia hgc hnone bd hown3 hw hb
            rcases hcs with h1 | ⟨h1, h2⟩
            all_goals
              go_upto_region 18 with (fail)
              refine wp_region_held_drew (S := fun w' => w'.cell? ⟨w.heap.size, 0, none⟩ = some (.slice a 4 cap) ∧ w'.cell? ⟨w.heap.size, 1, none⟩ = some (.string (textOf s.2)) ∧ w'.cell? ⟨w.heap.size, 2, none⟩ = some (.int .i64 (s.2.length : Nat))) (by kernel_rfl) (cells3 (W := wq) hxq) (fun hHeld => ?_)
              refine wpAnyH_take (i := 0) (v := ?_) rfl (by kernel_rfl) (by kernel_rfl) (by kernel_rfl) (fun _ _ _ h => h) (Or.inl ⟨by rfl, ?_⟩) (by assumption) ?_
              rotate_left
              · (intro w hSw; (try dsimp only at hSw); go_simp; try with_reducible rfl)
              rotate_left
              (try simp only [Act.put, List.setIfInBounds_toArray, List.set_cons_zero, List.set_cons_succ])
              refine wpAnyH_ready (rs := [1]) (by kernel_rfl) (by simp) ?_
              refine AllReadyH.cons rfl (fun K hK => ?_) AllReadyH.nil
              go_simp
              go_at_call 33
              refine (HEC.out _).mono ?_
              rintro e w8 ⟨rfl, hb8'⟩
              have hb8 : Below wq.heap.size wq w8 := below_trans Cls.start hb8'
              have hx8 := later_block hb8 hxq
              have hby8 := later_block hb8 hby
              have hb08 : Below w.heap.size w w8 := hbW.trans (hb8.mono (by omega))
              obtain ⟨u0, u1, u2⟩ := cells3 hby8
              obtain ⟨f0, f1, f2⟩ := free3 hby8
              (try go_simp)
              refine hK.out _ _ (cells3 hx8) (fun hHeld => ?_)
              clear hK K
              (try simp only [Act.put, List.setIfInBounds_toArray, List.set_cons_zero, List.set_cons_succ])
              refine wpAnyH_ready (rs := [2]) (by kernel_rfl) (by simp) ?_
              refine AllReadyH.cons rfl (fun K hK => ?_) AllReadyH.nil
              go_simp
              (try go_simp)
              refine hK.out _ _ (cells3 (put3_block _ _ _ hx8 (by omega))) (fun hHeld => ?_)
              clear hK K
              (try simp only [Act.put, List.setIfInBounds_toArray, List.set_cons_zero, List.set_cons_succ])
              refine wpAnyH_take (i := 3) (v := ?_) rfl (by kernel_rfl) (by kernel_rfl) (by kernel_rfl) (fun _ _ _ h => h) (Or.inl ⟨by rfl, ?_⟩) (by assumption) ?_
              rotate_left
              · (intro w hSw; (try dsimp only at hSw); go_simp; try with_reducible rfl)
              rotate_left
              (try simp only [Act.put, List.getElem_toArray, List.getElem_cons_succ, List.getElem_cons_zero, List.setIfInBounds_toArray, List.set_cons_zero, List.set_cons_succ])
              refine wpAnyH_done (by kernel_rfl) ?_ _
              go_wp2_with fail
              (try simp only [Exit.inBlock, Exit.then])
              refine bodyPost_ret (results_cell_row_tmp rfl _ _ (w.heap.size + 1) 48 #[.slice a 4 cap, .string (textOf s.2), .int .i64 (s.2.length : Nat)] (0, 0) _ rfl (box_store3 hby8) Tryz.underlying48 rfl (by kernel_rfl)) rfl ?_
              rw [HAN.out]
              exact ⟨⟨_, rfl, HREF.out _ (box_below3 hb08 (by omega))⟩, box_below3 hb08 (by omega)⟩
          · have hent := HOK.out.ok.ent i0 i1 (by omega) (by omega)
            have hro := HOW0.out w (Below.refl _ _)
            obtain ⟨rb, ro, rfl, hrb⟩ := hro.some (by omega)
            obtain ⟨ra, rc, hrc, -, -, -, hri⟩ := hro.row (i := i0) (by omega)
            rw [HOK.out.ok.sq.2 i0 (by omega)] at hrc hri
            obtain ⟨eb, eo, rfl, heb, hec⟩ := hri.some (by omega)
            have hel := hec i1 (by omega)
            obtain ⟨y, hy⟩ : ∃ y : Nat, fn s.1 i0 i1 = y := ⟨(fn s.1 i0 i1).toNat, by omega⟩
            have hel2 : w.cell? ⟨eb, eo + i1, none⟩ = some (.int .i64 (y : Nat)) := by rw [hel, ← hy]; rfl
            have hAN3 := hAN2.trans (if_neg hb)
            rw [hy, Int.toNat_natCast] at hAN3
            obtain ⟨dy, hdy⟩ : ∃ z, z = ba (Lib.decDigits y) := ⟨_, rfl⟩
            have hyb : y ≤ 1000000 := by omega
            have hdg := RDigits y hyb
            rw [← hdy] at hdg
            have HDG := Lib.hid hdg
            have HAN := Lib.hid (show ba (ansP ps s).1 = dy ∧ (ansP ps s).2 = s from by rw [hAN3, hdy]; exact ⟨rfl, rfl⟩)
            clear hdg hdy hAN3
            have h1 : ¬ (3 : Int) < (i0 : Int) := by omega
            have h2 : ¬ (3 : Int) < (i1 : Int) := by omega
            have k0 : (0 : Int) ≤ (i0 : Int) := by omega
            have k1 : (0 : Int) ≤ (i1 : Int) := by omega
            have k2 : (i0 : Int) < 4 := by omega
            have k3 : (i1 : Int) < 4 := by omega
            have HSS := Lib.hid (fun W (h : Below w.heap.size w W) (hx : W.heap[w.heap.size]? = some (.cells #[.slice (some ⟨rb, ro, none⟩) 4 cap, .string (textOf s.2), .int .i64 (s.2.length : Nat)] 48 (0, 0))) (hg : W.heap[gl]? = some O) => (show W.cell? ⟨w.heap.size, 0, none⟩ = some (.slice (some ⟨rb, ro, none⟩) 4 cap) ∧ W.cell? ⟨w.heap.size, 1, none⟩ = some (.string (textOf s.2)) ∧ W.cell? ⟨w.heap.size, 2, none⟩ = some (.int .i64 (s.2.length : Nat)) ∧ W.cell? ⟨gl, 0, none⟩ = some (.int .i64 (i0 : Nat)) ∧ W.cell? ⟨gl, 1, none⟩ = some (.int .i64 (i1 : Nat)) ∧ W.cell? ⟨rb, ro + i0, none⟩ = some (.slice (some ⟨eb, eo, none⟩) 4 rc) ∧ W.cell? ⟨eb, eo + i1, none⟩ = some (.int .i64 (y : Nat)) from
              ⟨(cells3 hx).1, (cells3 hx).2.1, (cells3 hx).2.2, hgy W hg 0 _ rfl, hgy W hg 1 _ rfl, (h.cell (p := ⟨rb, ro + i0, none⟩) hrb).trans hrc, (h.cell (p := ⟨eb, eo + i1, none⟩) heb).trans hel2⟩))
            clear hAN2 hAN hia hgc hgy hnone bd hown3 hw hb hent hro hri hec hel hel2 hy hrc
            go_upto_region 19 with (fail)
            refine wp_region_held_drew (S := fun w' => w'.cell? ⟨w.heap.size, 0, none⟩ = some (.slice (some ⟨rb, ro, none⟩) 4 cap) ∧ w'.cell? ⟨w.heap.size, 1, none⟩ = some (.string (textOf s.2)) ∧ w'.cell? ⟨w.heap.size, 2, none⟩ = some (.int .i64 (s.2.length : Nat)) ∧ w'.cell? ⟨gl, 0, none⟩ = some (.int .i64 (i0 : Nat)) ∧ w'.cell? ⟨gl, 1, none⟩ = some (.int .i64 (i1 : Nat)) ∧ w'.cell? ⟨rb, ro + i0, none⟩ = some (.slice (some ⟨eb, eo, none⟩) 4 rc) ∧ w'.cell? ⟨eb, eo + i1, none⟩ = some (.int .i64 (y : Nat))) (by kernel_rfl) (HSS.out wq.drew (hbW.trans Cls.start) hxq hgO) (fun hHeld => ?_)
            refine wpAnyH_take (i := 0) (v := ?_) rfl (by kernel_rfl) (by kernel_rfl) (by kernel_rfl) (fun _ _ _ h => h) (Or.inl ⟨by rfl, ?_⟩) (by assumption) ?_
            rotate_left
            · (intro w hSw; (try dsimp only at hSw); go_simp; try with_reducible rfl)
            rotate_left
            (try simp only [Act.put, List.setIfInBounds_toArray, List.set_cons_zero, List.set_cons_succ])
            refine wpAnyH_take (i := 1) (v := ?_) rfl (by kernel_rfl) (by kernel_rfl) (by kernel_rfl) (fun _ _ _ h => h) (Or.inl ⟨by rfl, ?_⟩) (by assumption) ?_
            rotate_left
            · (intro w hSw; (try dsimp only at hSw); go_simp; try with_reducible rfl)
            rotate_left
            (try simp only [Act.put, List.setIfInBounds_toArray, List.set_cons_zero, List.set_cons_succ])
            refine wpAnyH_take (i := 2) (v := ?_) rfl (by kernel_rfl) (by kernel_rfl) (by kernel_rfl) (fun _ _ _ h => h) (Or.inl ⟨by rfl, ?_⟩) (by assumption) ?_
            rotate_left
            · (intro w hSw; (try dsimp only at hSw); go_simp; try with_reducible rfl)
            rotate_left
            (try simp only [Act.put, List.setIfInBounds_toArray, List.set_cons_zero, List.set_cons_succ])
            refine wpAnyH_take (i := 3) (v := ?_) rfl (by kernel_rfl) (by kernel_rfl) (by kernel_rfl) (fun _ _ _ h => h) (Or.inl ⟨by rfl, ?_⟩) (by assumption) ?_
            rotate_left
            · (intro w hSw; (try dsimp only at hSw); go_simp; try with_reducible rfl)
            rotate_left
            (try simp only [Act.put, List.setIfInBounds_toArray, List.set_cons_zero, List.set_cons_succ])
            refine wpAnyH_take (i := 4) (v := ?_) rfl (by kernel_rfl) (by kernel_rfl) (by kernel_rfl) (fun _ _ _ h => h) (Or.inl ⟨by rfl, ?_⟩) (by assumption) ?_
            rotate_left
            · (intro w hSw; (try dsimp only at hSw); go_simp; try with_reducible rfl)
            rotate_left
            (try simp only [Act.put, List.setIfInBounds_toArray, List.set_cons_zero, List.set_cons_succ])
            refine wpAnyH_take (i := 5) (v := ?_) rfl (by kernel_rfl) (by kernel_rfl) (by kernel_rfl) (fun _ _ _ h => h) (Or.inl ⟨by rfl, ?_⟩) (by assumption) ?_
            rotate_left
            · (intro w hSw; (try dsimp only at hSw); go_simp; try with_reducible rfl)
            rotate_left
            (try simp only [Act.put, List.setIfInBounds_toArray, List.set_cons_zero, List.set_cons_succ])
            refine wpAnyH_take (i := 6) (v := ?_) rfl (by kernel_rfl) (by kernel_rfl) (by kernel_rfl) (fun _ _ _ h => h) (Or.inl ⟨by rfl, ?_⟩) (by assumption) ?_
            rotate_left
            · (intro w hSw; (try dsimp only at hSw); go_simp; try with_reducible rfl)
            rotate_left
            (try simp only [Act.put, List.setIfInBounds_toArray, List.set_cons_zero, List.set_cons_succ])
            refine wpAnyH_take (i := 7) (v := ?_) rfl (by kernel_rfl) (by kernel_rfl) (by kernel_rfl) (fun _ _ _ h => h) (Or.inl ⟨by rfl, ?_⟩) (by assumption) ?_
            rotate_left
            · (intro w hSw; (try dsimp only at hSw); go_simp; try with_reducible rfl)
            rotate_left
            (try simp only [Act.put, List.setIfInBounds_toArray, List.set_cons_zero, List.set_cons_succ])
            refine wpAnyH_take (i := 8) (v := ?_) rfl (by kernel_rfl) (by kernel_rfl) (by kernel_rfl) (fun _ _ _ h => h) (Or.inl ⟨by rfl, ?_⟩) (by assumption) ?_
            rotate_left
            · (intro w hSw; (try dsimp only at hSw); go_simp; try with_reducible rfl)
            rotate_left
            (try simp only [Act.put, List.setIfInBounds_toArray, List.set_cons_zero, List.set_cons_succ])
            refine wpAnyH_take (i := 9) (v := ?_) rfl (by kernel_rfl) (by kernel_rfl) (by kernel_rfl) (fun _ _ _ h => h) (Or.inl ⟨by rfl, ?_⟩) (by assumption) ?_
            rotate_left
            · (intro w hSw; (try dsimp only at hSw); go_simp; try with_reducible rfl)
            rotate_left
            (try simp only [Act.put, List.setIfInBounds_toArray, List.set_cons_zero, List.set_cons_succ])
            refine wpAnyH_take (i := 10) (v := ?_) rfl (by kernel_rfl) (by kernel_rfl) (by kernel_rfl) (fun _ _ _ h => h) (Or.inl ⟨by rfl, ?_⟩) (by assumption) ?_
            rotate_left
            · (intro w hSw; (try dsimp only at hSw); go_simp; try with_reducible rfl)
            rotate_left
            (try simp only [Act.put, List.setIfInBounds_toArray, List.set_cons_zero, List.set_cons_succ])
            refine wpAnyH_take (i := 11) (v := ?_) rfl (by kernel_rfl) (by kernel_rfl) (by kernel_rfl) (fun _ _ _ h => h) (Or.inl ⟨by rfl, ?_⟩) (by assumption) ?_
            rotate_left
            · (intro w hSw; (try dsimp only at hSw); go_simp; try with_reducible rfl)
            rotate_left
            (try simp only [Act.put, List.setIfInBounds_toArray, List.set_cons_zero, List.set_cons_succ])
            refine wpAnyH_take (i := 12) (v := ?_) rfl (by kernel_rfl) (by kernel_rfl) (by kernel_rfl) (fun _ _ _ h => h) (Or.inl ⟨by rfl, ?_⟩) (by assumption) ?_
            rotate_left
            · (intro w hSw; (try dsimp only at hSw); go_simp; try with_reducible rfl)
            rotate_left
            (try simp only [Act.put, List.setIfInBounds_toArray, List.set_cons_zero, List.set_cons_succ])
            refine wpAnyH_ready (rs := [13]) (by kernel_rfl) (by simp) ?_
            refine AllReadyH.cons rfl (fun K hK => ?_) AllReadyH.nil
            go_simp
            go_at_call 11
            refine (HDG.out _).mono ?_
            rintro e w8 ⟨rfl, hb8'⟩
            have hb8 : Below wq.heap.size wq w8 := below_trans Cls.start hb8'
            have hx8 := later_block hb8 hxq
            have hg8 := later_block hb8 hgO
            have hby8 := later_block hb8 hby
            have hb08 : Below w.heap.size w w8 := hbW.trans (hb8.mono (by omega))
            obtain ⟨u0, u1, u2⟩ := cells3 hby8
            obtain ⟨f0, f1, f2⟩ := free3 hby8
            (try go_simp)
            refine hK.out _ _ (HSS.out w8 hb08 hx8 hg8) (fun hHeld => ?_)
            clear hK K
            (try simp only [Act.put, List.setIfInBounds_toArray, List.set_cons_zero, List.set_cons_succ])
            refine wpAnyH_ready (rs := [14]) (by kernel_rfl) (by simp) ?_
            refine AllReadyH.cons rfl (fun K hK => ?_) AllReadyH.nil
            go_simp
            (try go_simp)
            refine hK.out _ _ (HSS.out _ (box_below3 hb08 (by omega)) (put3_block _ _ _ hx8 (by omega)) (put3_block _ _ _ hg8 (by have := HW2.out.size; omega))) (fun hHeld => ?_)
            clear hK K
            (try simp only [Act.put, List.setIfInBounds_toArray, List.set_cons_zero, List.set_cons_succ])
            refine wpAnyH_take (i := 15) (v := ?_) rfl (by kernel_rfl) (by kernel_rfl) (by kernel_rfl) (fun _ _ _ h => h) (Or.inl ⟨by rfl, ?_⟩) (by assumption) ?_
            rotate_left
            · (intro w hSw; (try dsimp only at hSw); go_simp; try with_reducible rfl)
            rotate_left
            (try simp only [Act.put, List.setIfInBounds_toArray, List.set_cons_zero, List.set_cons_succ])
            refine wpAnyH_done (by kernel_rfl) ?_ _
            go_wp2_with fail
            (try simp only [Exit.inBlock, Exit.then])
            refine bodyPost_ret (results_cell_row_tmp rfl _ _ (w.heap.size + 1) 48 #[.slice (some ⟨rb, ro, none⟩) 4 cap, .string (textOf s.2), .int .i64 (s.2.length : Nat)] (0, 0) _ rfl (box_store3 hby8) Tryz.underlying48 rfl (by kernel_rfl)) rfl ?_
            rw [HAN.out.1, HAN.out.2]
            exact ⟨⟨_, rfl, HREF.out _ (box_below3 hb08 (by omega))⟩, box_below3 hb08 (by omega)⟩
        · have hkb : ((n : Int) == 2) = false := by rw [beq_eq_false_iff_ne]; omega
          have HRE := Lib.hid (hnone ⟨fun e => absurd (hw.symm.trans e.1) (by decide), fun e => absurd (hw.symm.trans e.1) (by decide), fun e => hk (by omega), fun e => absurd (hw.symm.trans e.1) (by decide), fun e => absurd (hw.symm.trans e.1) (by decide)⟩)
          clear hk hw hia hAN hnone bd hown3
          obtain ⟨p0, p1, p2, s0, s1, s2, t0, t1, t2, hby⟩ := HBX.out _ hW
          have hbW := HW0.out.trans (hW.mono (by omega))
          go_wp2_with fail
          (try simp only [Exit.inBlock, Exit.then])
          refine bodyPost_ret (results_cell_row_tmp rfl _ _ (w.heap.size + 1) 48 #[.slice a 4 cap, .string (textOf s.2), .int .i64 (s.2.length : Nat)] (0, 0) _ rfl (box_store3 hby) Tryz.underlying48 rfl (by kernel_rfl)) rfl ?_
          rw [HRE.out]
          exact ⟨⟨_, rfl, HREF.out _ (box_below3 hbW (by omega))⟩, box_below3 hbW (by omega)⟩
      · by_cases hk : n = 0
        · subst hk
          obtain ⟨-, -, -, -, -, -, -, -, -, hby⟩ := HBX.out _ hW
          have hxq := HXQ.out _ hW
          obtain ⟨p0, p1, p2⟩ := cells3 hxq
          have hbW := HW0.out.trans (hW.mono (by omega))
          have zx : w.heap.size < wq.heap.size := (Array.getElem?_eq_some_iff.1 hxq).1
          have zy : w.heap.size + 1 < wq.heap.size := (Array.getElem?_eq_some_iff.1 hby).1
          have hAN2 : ansP ps s = (Lib.decDigits (G_det s.1).toNat, s) := hAN.trans (by rw [hw]; exact (cmdE_0 kDet s).trans (if_pos rfl))
          have hgd : 0 ≤ G_det s.1 ∧ G_det s.1 < 9973 := by unfold G_det; omega
          have hDM : detN 4 s.1 % 9973 = G_det s.1 := by rw [detN_G]; rfl
          have hdm := fun W (h : Below w.heap.size w W) => DetMod_any 4 a cap s.1 W (by omega) hc4 HOK.out.ok.sq (ent_rows HOK.out.ok.sq HOK.out.ok.ent) (HOW0.out W h)
          rw [hDM] at hdm
          obtain ⟨y, hy⟩ : ∃ y : Nat, G_det s.1 = y := ⟨(G_det s.1).toNat, by omega⟩
          rw [hy] at hdm hAN2
          rw [Int.toNat_natCast] at hAN2
          obtain ⟨dy, hdy⟩ : ∃ z, z = ba (Lib.decDigits y) := ⟨_, rfl⟩
          have hdg := RDigits y (by omega)
          rw [← hdy] at hdg
          have HDG := Lib.hid hdg
          have HDM := Lib.hid hdm
          have HAN := Lib.hid (show ba (ansP ps s).1 = dy ∧ (ansP ps s).2 = s from by rw [hAN2, hdy]; exact ⟨rfl, rfl⟩)
          clear hdg hdy
          clear hAN2 hAN hia hnone bd hown3 hw hgd hDM hdm hy
          go_upto_region 21 with (fail)
          refine wp_region_held_drew (S := fun w' => w'.cell? ⟨w.heap.size, 0, none⟩ = some (.slice a 4 cap) ∧ w'.cell? ⟨w.heap.size, 1, none⟩ = some (.string (textOf s.2)) ∧ w'.cell? ⟨w.heap.size, 2, none⟩ = some (.int .i64 (s.2.length : Nat))) (by kernel_rfl) (cells3 (W := wq) hxq) (fun hHeld => ?_)
          refine wpAnyH_take (i := 0) (v := ?_) rfl (by kernel_rfl) (by kernel_rfl) (by kernel_rfl) (fun _ _ _ h => h) (Or.inl ⟨by rfl, ?_⟩) (by assumption) ?_
          rotate_left
          · (intro w hSw; (try dsimp only at hSw); go_simp; try with_reducible rfl)
          rotate_left
          (try simp only [Act.put, List.setIfInBounds_toArray, List.set_cons_zero, List.set_cons_succ])
          refine wpAnyH_take (i := 1) (v := ?_) rfl (by kernel_rfl) (by kernel_rfl) (by kernel_rfl) (fun _ _ _ h => h) (Or.inl ⟨by rfl, ?_⟩) (by assumption) ?_
          rotate_left
          · (intro w hSw; (try dsimp only at hSw); go_simp; try with_reducible rfl)
          rotate_left
          (try simp only [Act.put, List.setIfInBounds_toArray, List.set_cons_zero, List.set_cons_succ])
          refine wpAnyH_take (i := 2) (v := ?_) rfl (by kernel_rfl) (by kernel_rfl) (by kernel_rfl) (fun _ _ _ h => h) (Or.inl ⟨by rfl, ?_⟩) (by assumption) ?_
          rotate_left
          · (intro w hSw; (try dsimp only at hSw); go_simp; try with_reducible rfl)
          rotate_left
          (try simp only [Act.put, List.setIfInBounds_toArray, List.set_cons_zero, List.set_cons_succ])
          refine wpAnyH_ready (rs := [3]) (by kernel_rfl) (by simp) ?_
          refine AllReadyH.cons rfl (fun K hK => ?_) AllReadyH.nil
          go_simp
          go_at_call 35
          refine (HDM.out _ (hbW.trans Cls.start)).mono ?_
          rintro e w5 ⟨rfl, hb5'⟩
          have hb5 : Below wq.heap.size wq w5 := below_trans Cls.start hb5'
          have hx5 := later_block hb5 hxq
          have hby5 := later_block hb5 hby
          (try go_simp)
          refine hK.out _ _ (cells3 hx5) (fun hHeld => ?_)
          clear hK K
          (try simp only [Act.put, List.setIfInBounds_toArray, List.set_cons_zero, List.set_cons_succ])
          refine wpAnyH_ready (rs := [4]) (by kernel_rfl) (by simp) ?_
          refine AllReadyH.cons rfl (fun K hK => ?_) AllReadyH.nil
          go_simp
          go_at_call 11
          refine (HDG.out _).mono ?_
          rintro e w8 ⟨rfl, hb8⟩
          have hx8 := later_block hb8 hx5
          have hby8 := later_block hb8 hby5
          have hb08 : Below w.heap.size w w8 := hbW.trans ((below_trans hb5 hb8).mono (by omega))
          obtain ⟨u0, u1, u2⟩ := cells3 hby8
          obtain ⟨f0, f1, f2⟩ := free3 hby8
          (try go_simp)
          refine hK.out _ _ (cells3 hx8) (fun hHeld => ?_)
          clear hK K
          (try simp only [Act.put, List.setIfInBounds_toArray, List.set_cons_zero, List.set_cons_succ])
          refine wpAnyH_ready (rs := [5]) (by kernel_rfl) (by simp) ?_
          refine AllReadyH.cons rfl (fun K hK => ?_) AllReadyH.nil
          go_simp
          (try go_simp)
          refine hK.out _ _ (cells3 (put3_block _ _ _ hx8 (by omega))) (fun hHeld => ?_)
          clear hK K
          (try simp only [Act.put, List.setIfInBounds_toArray, List.set_cons_zero, List.set_cons_succ])
          refine wpAnyH_take (i := 6) (v := ?_) rfl (by kernel_rfl) (by kernel_rfl) (by kernel_rfl) (fun _ _ _ h => h) (Or.inl ⟨by rfl, ?_⟩) (by assumption) ?_
          rotate_left
          · (intro w hSw; (try dsimp only at hSw); go_simp; try with_reducible rfl)
          rotate_left
          (try simp only [Act.put, List.setIfInBounds_toArray, List.set_cons_zero, List.set_cons_succ])
          refine wpAnyH_done (by kernel_rfl) ?_ _
          go_wp2_with fail
          (try simp only [Exit.inBlock, Exit.then])
          refine bodyPost_ret (results_cell_row_tmp rfl _ _ (w.heap.size + 1) 48 #[.slice a 4 cap, .string (textOf s.2), .int .i64 (s.2.length : Nat)] (0, 0) _ rfl (box_store3 hby8) Tryz.underlying48 rfl (by kernel_rfl)) rfl ?_
          rw [HAN.out.1, HAN.out.2]
          exact ⟨⟨_, rfl, HREF.out _ (box_below3 hb08 (by omega))⟩, box_below3 hb08 (by omega)⟩
        · have hkb : ((n : Int) == 0) = false := by rw [beq_eq_false_iff_ne]; omega
          have HRE := Lib.hid (hnone ⟨fun e => absurd (hw.symm.trans e.1) (by decide), fun e => absurd (hw.symm.trans e.1) (by decide), fun e => absurd (hw.symm.trans e.1) (by decide), fun e => hk (by omega), fun e => absurd (hw.symm.trans e.1) (by decide)⟩)
          clear hk hw hia hAN hnone bd hown3
          obtain ⟨p0, p1, p2, s0, s1, s2, t0, t1, t2, hby⟩ := HBX.out _ hW
          have hbW := HW0.out.trans (hW.mono (by omega))
          go_wp2_with fail
          (try simp only [Exit.inBlock, Exit.then])
          refine bodyPost_ret (results_cell_row_tmp rfl _ _ (w.heap.size + 1) 48 #[.slice a 4 cap, .string (textOf s.2), .int .i64 (s.2.length : Nat)] (0, 0) _ rfl (box_store3 hby) Tryz.underlying48 rfl (by kernel_rfl)) rfl ?_
          rw [HRE.out]
          exact ⟨⟨_, rfl, HREF.out _ (box_below3 hbW (by omega))⟩, box_below3 hbW (by omega)⟩
      · by_cases hk : n = 1
        · subst hk
          obtain ⟨gl, gc, O, ee, -, hgB, hgO, hgc⟩ := own_shape2 hown3 (by rw [nvI_len]; omega)
          simp only [Value.slice.injEq] at ee
          obtain ⟨rfl, -, rfl⟩ := ee
          have y0 : wq.cell? ⟨gl, 0, none⟩ = some (.int .i64 (nv ps 0 : Nat)) := hgc wq hgO 0 _ rfl
          obtain ⟨-, -, -, -, -, -, -, -, -, hby⟩ := HBX.out _ hW
          have hxq := HXQ.out _ hW
          obtain ⟨p0, p1, p2⟩ := cells3 hxq
          have hbW := HW0.out.trans (hW.mono (by omega))
          have zx : w.heap.size < wq.heap.size := (Array.getElem?_eq_some_iff.1 hxq).1
          have zy : w.heap.size + 1 < wq.heap.size := (Array.getElem?_eq_some_iff.1 hby).1
          have hAN2 : ansP ps s = (kFound ++ Lib.decDigits (openE ((textOf s.2).data.toList.take (nv ps 0))).2.1, (openE ((textOf s.2).data.toList.take (nv ps 0))).2.2) := hAN.trans (by rw [hw]; exact (cmdE_1 kCrash (nv ps 0) s).trans (if_pos rfl))
          obtain ⟨sn, hop, hok', hlen', -⟩ := HOK.out.crash (nv ps 0)
          have hsl := hok'.ok.len
          rw [hop] at hAN2
          have hsh := HOK.out.log.short
          obtain ⟨dy, hdy⟩ : ∃ z, z = ba (Lib.decDigits sn.2.length) := ⟨_, rfl⟩
          have hz : dy.size ≤ 4 := by rw [hdy, ba_size]; exact nDig_le (by omega)
          have hz6 : ¬ 9223372036854775807 < 6 + dy.size := by omega
          have hdg := RDigits sn.2.length (by omega)
          rw [← hdy] at hdg
          have HDG := Lib.hid hdg
          have HAN := Lib.hid (show (ba (ansP ps s).1 = (⟨#[102, 111, 117, 110, 100, 32]⟩ : ByteArray) ++ dy) ∧ (ansP ps s).2 = sn from by rw [hAN2, hdy, show (⟨#[102, 111, 117, 110, 100, 32]⟩ : ByteArray) = ba kFound from rfl, ba_app]; exact ⟨rfl, rfl⟩)
          have hn0 : (0 : Int) ≤ (nv ps 0 : Nat) := by omega
          generalize nv ps 0 = i0 at *
          generalize textOf s.2 = T at *
          have hte : ∀ k : Nat, (k = i0 ∧ i0 ≤ T.size) ∨ (k = T.size ∧ T.size < i0) → (T.extract 0 k).data.toList = T.data.toList.take i0 := fun k hk => by
            rw [ext_list]
            rcases hk with ⟨rfl, -⟩ | ⟨rfl, h⟩
            · rfl
            · rw [List.take_of_length_le (by rw [size_list]; exact Nat.le_refl _), List.take_of_length_le (by rw [size_list]; omega)]
          have hbW0 := hbW.size
          have HOP := Lib.hid (fun (k : Nat) (hk : (k = i0 ∧ i0 ≤ T.size) ∨ (k = T.size ∧ T.size < i0)) W (h : Below wq.heap.size wq W) => (show Calls Tryz.prog 36 #[.string (T.extract 0 k)] W fun e w' => (∃ v, e = .returned (.tuple #[v, .int .i64 (sn.2.length : Nat), .int .i64 0]) ∧ RefIs w' B v sn) ∧ Below W.heap.size W w' from by
            refine (ROpen_any (T.extract 0 k) W).mono ?_
            rintro e w' ⟨⟨v, h1, h2, -⟩, hb⟩
            rw [hte k hk, hop] at h1 h2
            refine ⟨⟨v, h1, ?_⟩, hb⟩
            obtain ⟨a', c', e1, e2, e3⟩ := h2 rfl
            exact ⟨a', c', e1, e2, e3.mono (by have := h.size; omega)⟩))
          have hcase : (i0 ≤ T.size ∧ ¬ (T.size : Int) < (i0 : Int)) ∨ (T.size < i0 ∧ (T.size : Int) < (i0 : Int)) := by omega
          clear hAN2 hAN hia hgc hnone bd hown3 hw hop hok' hlen' hdy hdg hte
          rcases hcase with ⟨h1, h2⟩ | ⟨h1, h2⟩
          · have HO := Lib.hid (HOP.out i0 (Or.inl ⟨rfl, h1⟩))
            have hi0 : (i0 : Int) ≤ (T.size : Int) := by omega
            clear h1 HOP
            go_wp2_with fail
            go_at_call 36
            refine (HO.out _ (Below.refl _ _)).mono ?_
            rintro e w6 ⟨⟨v6, rfl, hR6⟩, hb6⟩
            obtain ⟨ra6, rc6, rfl, hrc6, hro6⟩ := hR6
            have hR6 : RefIs w6 B (refV ra6 rc6 (textOf sn.2) sn.2.length) sn := ⟨ra6, rc6, rfl, hrc6, hro6⟩
            go_upto_region 29 with (fail)
            have hal : Below w6.heap.size w6 (w6.alloc (.cells #[.slice ra6 4 rc6, .string (textOf sn.2), .int .i64 (sn.2.length : Nat)] 48)) := (Below.refl _ _).alloc (Nat.le_refl _) _
            have hR7 := hR6.call hal
            have hc7 : (w6.alloc (.cells #[.slice ra6 4 rc6, .string (textOf sn.2), .int .i64 (sn.2.length : Nat)] 48)).heap[w6.heap.size]? = some (.cells #[.slice ra6 4 rc6, .string (textOf sn.2), .int .i64 (sn.2.length : Nat)] 48 (0, 0)) := heap_alloc_new _ _
            have hcn : w6.heap.size ≠ w.heap.size + 1 := by have := hb6.size; omega
            have hb67 := below_trans hb6 hal
            obtain ⟨c, hc⟩ : ∃ c, c = w6.heap.size := ⟨_, rfl⟩
            rw [← hc] at hc7 hcn ⊢
            generalize w6.alloc (.cells #[.slice ra6 4 rc6, .string (textOf sn.2), .int .i64 (sn.2.length : Nat)] 48) = W7 at *
            clear hc hal hR6 hro6 hrc6 hb6
            have hby7 := later_block hb67 hby
            have hb07 : Below w.heap.size w W7 := hbW.trans (hb67.mono (by omega))
            refine wp_region_held_drew (S := fun w' => w'.cell? ⟨c, 0, none⟩ = some (.slice ra6 4 rc6) ∧ w'.cell? ⟨c, 1, none⟩ = some (.string (textOf sn.2)) ∧ w'.cell? ⟨c, 2, none⟩ = some (.int .i64 (sn.2.length : Nat))) (by kernel_rfl) (cells3 (W := W7) hc7) (fun hHeld => ?_)
            refine wpAnyH_take (i := 0) (v := ?_) rfl (by kernel_rfl) (by kernel_rfl) (by kernel_rfl) (fun _ _ _ h => h) (Or.inl ⟨by rfl, ?_⟩) (by assumption) ?_
            rotate_left
            · (intro w hSw; (try dsimp only at hSw); go_simp; try with_reducible rfl)
            rotate_left
            (try simp only [Act.put, List.setIfInBounds_toArray, List.set_cons_zero, List.set_cons_succ])
            refine wpAnyH_take (i := 1) (v := ?_) rfl (by kernel_rfl) (by kernel_rfl) (by kernel_rfl) (fun _ _ _ h => h) (Or.inl ⟨by rfl, ?_⟩) (by assumption) ?_
            rotate_left
            · (intro w hSw; (try dsimp only at hSw); go_simp; try with_reducible rfl)
            rotate_left
            (try simp only [Act.put, List.setIfInBounds_toArray, List.set_cons_zero, List.set_cons_succ])
            refine wpAnyH_ready (rs := [2]) (by kernel_rfl) (by simp) ?_
            refine AllReadyH.cons rfl (fun K hK => ?_) AllReadyH.nil
            go_simp
            go_at_call 11
            refine (HDG.out _).mono ?_
            rintro e w8 ⟨rfl, hb8'⟩
            have hb8 : Below W7.heap.size W7 w8 := below_trans Cls.start hb8'
            have hc8 := later_block hb8 hc7
            have hby8 := later_block hb8 hby7
            have hR8 := hR7.call hb8
            have hb08 := below_trans hb07 hb8
            obtain ⟨u0, u1, u2⟩ := cells3 hby8
            obtain ⟨f0, f1, f2⟩ := free3 hby8
            (try go_simp)
            refine hK.out _ _ (cells3 hc8) (fun hHeld => ?_)
            clear hK K
            (try simp only [Act.put, List.setIfInBounds_toArray, List.set_cons_zero, List.set_cons_succ])
            refine wpAnyH_take (i := 3) (v := ?_) rfl (by kernel_rfl) (by kernel_rfl) (by kernel_rfl) (fun _ _ _ h => h) (Or.inl ⟨by rfl, ?_⟩) (by assumption) ?_
            rotate_left
            · (intro w hSw; (try dsimp only at hSw); go_simp; try with_reducible rfl)
            rotate_left
            (try simp only [Act.put, List.setIfInBounds_toArray, List.set_cons_zero, List.set_cons_succ])
            refine wpAnyH_ready (rs := [4]) (by kernel_rfl) (by simp) ?_
            refine AllReadyH.cons rfl (fun K hK => ?_) AllReadyH.nil
            go_simp
            (try go_simp)
            refine hK.out _ _ (cells3 (put3_block _ _ _ hc8 hcn)) (fun hHeld => ?_)
            clear hK K
            (try simp only [Act.put, List.setIfInBounds_toArray, List.set_cons_zero, List.set_cons_succ])
            refine wpAnyH_take (i := 5) (v := ?_) rfl (by kernel_rfl) (by kernel_rfl) (by kernel_rfl) (fun _ _ _ h => h) (Or.inl ⟨by rfl, ?_⟩) (by assumption) ?_
            rotate_left
            · (intro w hSw; (try dsimp only at hSw); go_simp; try with_reducible rfl)
            rotate_left
            (try simp only [Act.put, List.getElem_toArray, List.getElem_cons_succ, List.getElem_cons_zero, List.setIfInBounds_toArray, List.set_cons_zero, List.set_cons_succ])
            refine wpAnyH_done (by kernel_rfl) ?_ _
            go_wp2_with fail
            (try simp only [Exit.inBlock, Exit.then])
            refine bodyPost_ret (results_cell_row_tmp rfl _ _ (w.heap.size + 1) 48 #[.slice ra6 4 rc6, .string (textOf sn.2), .int .i64 (sn.2.length : Nat)] (0, 0) _ rfl (box_store3 hby8) Tryz.underlying48 rfl (by kernel_rfl)) rfl ?_
            rw [HAN.out.1, HAN.out.2]
            exact ⟨⟨_, rfl, hR8.other hby8 (put3_grown w8 (w.heap.size + 1) _ _ _)⟩, box_below3 hb08 (by omega)⟩
          · have hO := HOP.out T.size (Or.inr ⟨rfl, h1⟩)
            rw [ext_all T] at hO
            have HO := Lib.hid hO
            clear hO h1 HOP
            go_wp2_with fail
            go_at_call 36
            refine (HO.out _ (Below.refl _ _)).mono ?_
            rintro e w6 ⟨⟨v6, rfl, hR6⟩, hb6⟩
            obtain ⟨ra6, rc6, rfl, hrc6, hro6⟩ := hR6
            have hR6 : RefIs w6 B (refV ra6 rc6 (textOf sn.2) sn.2.length) sn := ⟨ra6, rc6, rfl, hrc6, hro6⟩
            go_upto_region 29 with (fail)
            have hal : Below w6.heap.size w6 (w6.alloc (.cells #[.slice ra6 4 rc6, .string (textOf sn.2), .int .i64 (sn.2.length : Nat)] 48)) := (Below.refl _ _).alloc (Nat.le_refl _) _
            have hR7 := hR6.call hal
            have hc7 : (w6.alloc (.cells #[.slice ra6 4 rc6, .string (textOf sn.2), .int .i64 (sn.2.length : Nat)] 48)).heap[w6.heap.size]? = some (.cells #[.slice ra6 4 rc6, .string (textOf sn.2), .int .i64 (sn.2.length : Nat)] 48 (0, 0)) := heap_alloc_new _ _
            have hcn : w6.heap.size ≠ w.heap.size + 1 := by have := hb6.size; omega
            have hb67 := below_trans hb6 hal
            obtain ⟨c, hc⟩ : ∃ c, c = w6.heap.size := ⟨_, rfl⟩
            rw [← hc] at hc7 hcn ⊢
            generalize w6.alloc (.cells #[.slice ra6 4 rc6, .string (textOf sn.2), .int .i64 (sn.2.length : Nat)] 48) = W7 at *
            clear hc hal hR6 hro6 hrc6 hb6
            have hby7 := later_block hb67 hby
            have hb07 : Below w.heap.size w W7 := hbW.trans (hb67.mono (by omega))
            refine wp_region_held_drew (S := fun w' => w'.cell? ⟨c, 0, none⟩ = some (.slice ra6 4 rc6) ∧ w'.cell? ⟨c, 1, none⟩ = some (.string (textOf sn.2)) ∧ w'.cell? ⟨c, 2, none⟩ = some (.int .i64 (sn.2.length : Nat))) (by kernel_rfl) (cells3 (W := W7) hc7) (fun hHeld => ?_)
            refine wpAnyH_take (i := 0) (v := ?_) rfl (by kernel_rfl) (by kernel_rfl) (by kernel_rfl) (fun _ _ _ h => h) (Or.inl ⟨by rfl, ?_⟩) (by assumption) ?_
            rotate_left
            · (intro w hSw; (try dsimp only at hSw); go_simp; try with_reducible rfl)
            rotate_left
            (try simp only [Act.put, List.setIfInBounds_toArray, List.set_cons_zero, List.set_cons_succ])
            refine wpAnyH_take (i := 1) (v := ?_) rfl (by kernel_rfl) (by kernel_rfl) (by kernel_rfl) (fun _ _ _ h => h) (Or.inl ⟨by rfl, ?_⟩) (by assumption) ?_
            rotate_left
            · (intro w hSw; (try dsimp only at hSw); go_simp; try with_reducible rfl)
            rotate_left
            (try simp only [Act.put, List.setIfInBounds_toArray, List.set_cons_zero, List.set_cons_succ])
            refine wpAnyH_ready (rs := [2]) (by kernel_rfl) (by simp) ?_
            refine AllReadyH.cons rfl (fun K hK => ?_) AllReadyH.nil
            go_simp
            go_at_call 11
            refine (HDG.out _).mono ?_
            rintro e w8 ⟨rfl, hb8'⟩
            have hb8 : Below W7.heap.size W7 w8 := below_trans Cls.start hb8'
            have hc8 := later_block hb8 hc7
            have hby8 := later_block hb8 hby7
            have hR8 := hR7.call hb8
            have hb08 := below_trans hb07 hb8
            obtain ⟨u0, u1, u2⟩ := cells3 hby8
            obtain ⟨f0, f1, f2⟩ := free3 hby8
            (try go_simp)
            refine hK.out _ _ (cells3 hc8) (fun hHeld => ?_)
            clear hK K
            (try simp only [Act.put, List.setIfInBounds_toArray, List.set_cons_zero, List.set_cons_succ])
            refine wpAnyH_take (i := 3) (v := ?_) rfl (by kernel_rfl) (by kernel_rfl) (by kernel_rfl) (fun _ _ _ h => h) (Or.inl ⟨by rfl, ?_⟩) (by assumption) ?_
            rotate_left
            · (intro w hSw; (try dsimp only at hSw); go_simp; try with_reducible rfl)
            rotate_left
            (try simp only [Act.put, List.setIfInBounds_toArray, List.set_cons_zero, List.set_cons_succ])
            refine wpAnyH_ready (rs := [4]) (by kernel_rfl) (by simp) ?_
            refine AllReadyH.cons rfl (fun K hK => ?_) AllReadyH.nil
            go_simp
            (try go_simp)
            refine hK.out _ _ (cells3 (put3_block _ _ _ hc8 hcn)) (fun hHeld => ?_)
            clear hK K
            (try simp only [Act.put, List.setIfInBounds_toArray, List.set_cons_zero, List.set_cons_succ])
            refine wpAnyH_take (i := 5) (v := ?_) rfl (by kernel_rfl) (by kernel_rfl) (by kernel_rfl) (fun _ _ _ h => h) (Or.inl ⟨by rfl, ?_⟩) (by assumption) ?_
            rotate_left
            · (intro w hSw; (try dsimp only at hSw); go_simp; try with_reducible rfl)
            rotate_left
            (try simp only [Act.put, List.getElem_toArray, List.getElem_cons_succ, List.getElem_cons_zero, List.setIfInBounds_toArray, List.set_cons_zero, List.set_cons_succ])
            refine wpAnyH_done (by kernel_rfl) ?_ _
            go_wp2_with fail
            (try simp only [Exit.inBlock, Exit.then])
            refine bodyPost_ret (results_cell_row_tmp rfl _ _ (w.heap.size + 1) 48 #[.slice ra6 4 rc6, .string (textOf sn.2), .int .i64 (sn.2.length : Nat)] (0, 0) _ rfl (box_store3 hby8) Tryz.underlying48 rfl (by kernel_rfl)) rfl ?_
            rw [HAN.out.1, HAN.out.2]
            exact ⟨⟨_, rfl, hR8.other hby8 (put3_grown w8 (w.heap.size + 1) _ _ _)⟩, box_below3 hb08 (by omega)⟩
        · have hkb : ((n : Int) == 1) = false := by rw [beq_eq_false_iff_ne]; omega
          have HRE := Lib.hid (hnone ⟨fun e => absurd (hw.symm.trans e.1) (by decide), fun e => absurd (hw.symm.trans e.1) (by decide), fun e => absurd (hw.symm.trans e.1) (by decide), fun e => absurd (hw.symm.trans e.1) (by decide), fun e => hk (by omega)⟩)
          clear hk hw hia hAN hnone bd hown3
          obtain ⟨p0, p1, p2, s0, s1, s2, t0, t1, t2, hby⟩ := HBX.out _ hW
          have hbW := HW0.out.trans (hW.mono (by omega))
          go_wp2_with fail
          (try simp only [Exit.inBlock, Exit.then])
          refine bodyPost_ret (results_cell_row_tmp rfl _ _ (w.heap.size + 1) 48 #[.slice a 4 cap, .string (textOf s.2), .int .i64 (s.2.length : Nat)] (0, 0) _ rfl (box_store3 hby) Tryz.underlying48 rfl (by kernel_rfl)) rfl ?_
          rw [HRE.out]
          exact ⟨⟨_, rfl, HREF.out _ (box_below3 hbW (by omega))⟩, box_below3 hbW (by omega)⟩
      · have HRE := Lib.hid (hnone ⟨fun e => hw.1 e.1, fun e => hw.2.1 e.1, fun e => hw.2.2.1 e.1, fun e => hw.2.2.2.1 e.1, fun e => hw.2.2.2.2 e.1⟩)
        clear hw hia hAN hnone bd hown3
        obtain ⟨p0, p1, p2, s0, s1, s2, t0, t1, t2, hby⟩ := HBX.out _ hW
        have hbW := HW0.out.trans (hW.mono (by omega))
        go_wp2_with fail
        (try simp only [Exit.inBlock, Exit.then])
        refine bodyPost_ret (results_cell_row_tmp rfl _ _ (w.heap.size + 1) 48 #[.slice a 4 cap, .string (textOf s.2), .int .i64 (s.2.length : Nat)] (0, 0) _ rfl (box_store3 hby) Tryz.underlying48 rfl (by kernel_rfl)) rfl ?_
        rw [HRE.out]
        exact ⟨⟨_, rfl, HREF.out _ (box_below3 hbW (by omega))⟩, box_below3 hbW (by omega)⟩
end Go.Proofs.YtokneabcgmjhdaaGreatDoor
