/- Contract of the reference's Open. -/
import Derived.Test.YtokneabcgmjhdaaGreatDoorRefLine
import Derived.Test.YtokneabcgmjhdaaGreatDoorOpOpen
import Derived.Deep.RegionHeld3
namespace Go.Proofs.YtokneabcgmjhdaaGreatDoor
open Go.RowKit
set_option linter.unusedVariables false
set_option linter.unusedSimpArgs false

theorem results_cell_tmp_tmp {fn : Func} {p u z : Tmp} {ty : TypeId} (h : fn.results = #[.cell p ty, .tmp u, .tmp z]) (tmps : Array Value) (P : Program) (w : World) :
    (results fn tmps).run P w =
      ((asAddr (tmps.getD p undef)).run P w).andThen fun a w₁ => ((loadVar ty a).run P w₁).andThen fun v w₂ => .ok (.tuple #[v, tmps.getD u undef, tmps.getD z undef]) w₂ := by
  simp only [results, h]
  simp [Sem.run_bind, Result.andThen]
theorem results_cell_row_tmp2 {P : Program} {fn : Func} {p u z : Tmp} {ty : TypeId} (h : fn.results = #[.cell p ty, .tmp u, .tmp z]) (tmps : Array Value) (w : World) (g : Nat) (t : TypeId) (cs : Array Value) (fr : Nat × Nat) (d : TypeDesc)
    (hp : tmps.getD p undef = .pointer (some ⟨g, 0, none⟩)) (hg : w.heap[g]? = some (.cells cs t fr))
    (hu : P.underlying ty = some d) (hd : (match d with | .struct _ | .array _ _ => true | _ => false) = true) (hi : (P.info? ty).map (·.size) = some cs.size) :
    (results fn tmps).run P w = .ok (.tuple #[.agg cs, tmps.getD u undef, tmps.getD z undef]) w := by
  rw [results_cell_tmp_tmp h, hp]
  simp [asAddr, run_loadVar_row w g t ty cs fr d hg hu hd hi, Result.andThen]
theorem own_shape2 {w : World} {B : Nat} {e : TypeId} {v : Value} {n : Nat} {xs : List Value} (h : w.ownsRow B e 1 v n xs) (hn : 0 < n) : ∃ g cap O, v = .slice (some ⟨g, 0, none⟩) n cap ∧ n ≤ cap ∧ B ≤ g ∧ w.heap[g]? = some O ∧ ∀ W : World, W.heap[g]? = some O → ∀ i u, xs[i]? = some u → W.cell? ⟨g, i, none⟩ = some u := by
  rcases h.2 with ⟨rfl, h0⟩ | ⟨g, cap, cur, rfl, hg, hb, h1, h2⟩
  · omega
  · have hh : w.ownsRow B e 1 (.slice (some ⟨g, 0, none⟩) n cap) n xs := h
    refine ⟨g, cap, _, rfl, h1, hg, hb, fun W hW i u hu => ?_⟩
    have hi : i < n := by
      have h3 := h.1
      have := (List.getElem?_eq_some_iff.1 hu).1
      omega
    have h4 := hh.cellAt i (by omega)
    rw [hu] at h4
    rw [← h4]
    simp [World.cell?, hW, hb]

theorem open_fresh {wr w6 : World} (h : Below ((wr.alloc (boxO (.slice none 0 0))).drew).heap.size ((wr.alloc (boxO (.slice none 0 0))).drew) w6) : w6.cell? ⟨wr.heap.size, 0, none⟩ = some (.slice none 0 0) ∧ w6.cell? ⟨wr.heap.size, 1, none⟩ = some (.string ⟨#[]⟩) ∧ w6.cell? ⟨wr.heap.size, 2, none⟩ = some (.int .i64 0) ∧
    w6.frozen? ⟨wr.heap.size, 0, none⟩ = false ∧ w6.frozen? ⟨wr.heap.size, 1, none⟩ = false ∧ w6.frozen? ⟨wr.heap.size, 2, none⟩ = false := by
  have e : w6.heap[wr.heap.size]? = some (boxO (.slice none 0 0)) := by
    rw [h.block _ (by show wr.heap.size < (wr.alloc _).heap.size; simp)]
    exact heap_alloc_new wr _
  exact ⟨by simp [World.cell?, e], by simp [World.cell?, e], by simp [World.cell?, e], by simp [World.frozen?, e], by simp [World.frozen?, e], by simp [World.frozen?, e]⟩
theorem open_box {wr w6 : World} (h : Below ((wr.alloc (boxO (.slice none 0 0))).drew).heap.size ((wr.alloc (boxO (.slice none 0 0))).drew) w6) : w6.heap[wr.heap.size]? = some (boxO (.slice none 0 0)) := by
  rw [h.block _ (by show wr.heap.size < (wr.alloc _).heap.size; simp)]
  exact heap_alloc_new wr _
theorem open_store {wr W : World} {c o : Nat} {v : Value} (h : Below wr.heap.size wr W) (hc : wr.heap.size ≤ c) : Below wr.heap.size wr (W.setCell ⟨c, o, none⟩ v) := h.setCell (p := ⟨c, o, none⟩) hc v
theorem open_store3 {wr W : World} {a b c : Value} (h : Below wr.heap.size wr W) : Below wr.heap.size wr (((W.setCell ⟨wr.heap.size, 0, none⟩ a).setCell ⟨wr.heap.size, 1, none⟩ b).setCell ⟨wr.heap.size, 2, none⟩ c) := box_below3 h (Nat.le_refl _)
/-- nothing of a book -/
abbrev refZ : Value := .agg #[.slice none 0 0, .string ⟨#[]⟩, .int .i64 0]
set_option maxRecDepth 100000 in
set_option maxHeartbeats 4000000 in
theorem ROpen_any (t : ByteArray) (w : World) :
    Calls Tryz.prog 36 #[.string t] w fun e w' => (∃ v, e = .returned (.tuple #[v, .int .i64 ((openE t.data.toList).2.1 : Nat), .int .i64 (openE t.data.toList).1]) ∧ ((openE t.data.toList).1 = 0 → RefIs w' w.heap.size v (openE t.data.toList).2.2) ∧ ((openE t.data.toList).1 ≠ 0 → v = refZ)) ∧ Below w.heap.size w w' := by
  by_cases hl : 2000 < t.size
  · have hE : openE t.data.toList = (4, 0, (zeros4, [])) := if_pos (by rw [size_list]; exact hl)
    have HE := Lib.hid hE
    have hli : (2000 : Int) < t.size := by omega
    clear hE
    go_enter Tryz.func36, Tryz.ntmps36
    go_wp2_with fail
    (try simp only [Exit.inBlock, Exit.then])
    refine bodyPost_ret (results_cell_row_tmp2 rfl _ _ w.heap.size 48 #[.slice none 0 0, .string ⟨#[]⟩, .int .i64 0] (0, 0) _ rfl (heap_alloc_new _ _) Tryz.underlying48 rfl (by kernel_rfl)) rfl ?_
    rw [HE.out]
    exact ⟨⟨_, rfl, fun h => by simp at h, fun _ => rfl⟩, (Below.refl _ _).alloc (Nat.le_refl _) _⟩
  · have hE : openE t.data.toList = runL (linesOf t.data.toList) (zeros4, []) 0 := if_neg (by rw [size_list]; exact hl)
    have hli : ¬ (2000 : Int) < t.size := by omega
    have hCT := fun W => RCut_any t 10 W (by omega)
    obtain ⟨ps, hps⟩ : ∃ ps, ps = cutL 10 t.data.toList := ⟨_, rfl⟩
    have HPZ := Lib.hid (fun j => (show (ba (ps.getD j [])).size ≤ 3000 from by rw [hps]; have := piece_size (c := 10) (l := t.data.toList) j; rw [size_list] at this; omega))
    rw [← hps] at hCT
    have hlines : linesOf t.data.toList = ps.dropLast := by unfold linesOf; rw [← hps]
    rw [hlines] at hE
    have hpl : 0 < ps.length := List.length_pos_iff.2 (by rw [hps]; exact cutL_ne _ _)
    obtain ⟨n, hn⟩ : ∃ n, ps.length = n + 1 := ⟨ps.length - 1, by omega⟩
    have hdl : ps.dropLast.length = n := by rw [List.length_dropLast, hn]; rfl
    have hn3 : n ≤ 3000 := by
      have h1 := cutL_len 10 t.data.toList
      rw [← hps, hn] at h1
      have h2 := List.count_le_length (a := (10 : UInt8)) (l := t.data.toList)
      rw [size_list] at h2
      omega
    have HE := Lib.hid hE
    have HDL := Lib.hid hdl
    have HNN := Lib.hid hn
    have HCT := Lib.hid hCT
    clear hE hps hlines hdl hCT
    go_enter Tryz.func36, Tryz.ntmps36
    go_wp2_with fail
    go_at_call 21
    refine (RNew_any _).mono ?_
    rintro e w1 ⟨⟨v, rfl, hR⟩, hb1⟩
    have hby1 : w1.heap[w.heap.size]? = some (boxO (.slice none 0 0)) := by
      rw [hb1.block _ (by simp)]; exact heap_alloc_new _ _
    have hbel1 : Below w.heap.size w w1 := ((Below.refl _ _).alloc (Nat.le_refl _) _).trans (hb1.mono (by simp))
    have hs1 := hb1.size
    have hsA : (w.alloc (boxO (.slice none 0 0))).heap.size = w.heap.size + 1 := by simp
    rw [hsA] at hR hs1
    obtain ⟨ra, rc, rfl, hrc, hro⟩ := hR
    have hR : RefIs w1 (w.heap.size + 1) (refV ra rc (textOf (zeros4, ([] : List ByteArray)).2) (zeros4, ([] : List ByteArray)).2.length) (zeros4, []) := ⟨ra, rc, rfl, hrc, hro⟩
    clear hb1 hro hsA
    go_upto_region 4 with (fail)
    have hx2 : (w1.alloc (.cells #[.slice ra 4 rc, .string (textOf []), .int .i64 0] 48)).heap[w1.heap.size]? = some (.cells #[.slice ra 4 rc, .string (textOf []), .int .i64 0] 48 (0, 0)) := heap_alloc_new _ _
    have hal : Below w1.heap.size w1 (w1.alloc (.cells #[.slice ra 4 rc, .string (textOf []), .int .i64 0] 48)) := (Below.refl _ _).alloc (Nat.le_refl _) _
    have hR2 := hR.call hal
    have hbel2 := below_trans hbel1 hal
    have hby2 : (w1.alloc (.cells #[.slice ra 4 rc, .string (textOf []), .int .i64 0] 48)).heap[w.heap.size]? = some (boxO (.slice none 0 0)) := by rw [hal.block _ (Array.getElem?_eq_some_iff.1 hby1).1]; exact hby1
    have hsz2 : (w1.alloc (.cells #[.slice ra 4 rc, .string (textOf []), .int .i64 0] 48)).heap.size = w1.heap.size + 1 := by simp
    obtain ⟨X, hX⟩ : ∃ X, X = w1.heap.size := ⟨_, rfl⟩
    rw [← hX] at hx2 hs1 hsz2 ⊢
    clear hal hR hbel1 hby1
    generalize w1.alloc (.cells #[.slice ra 4 rc, .string (textOf []), .int .i64 0] 48) = w2 at *
    clear hX w1
    go_wp2_with fail
    go_at_call 30
    refine (HCT.out _).mono ?_
    rintro e w3 ⟨⟨vp, rfl, hop⟩, hb3⟩
    obtain ⟨pg, pc, O, rfl, hpc, hpgB, hO, hpcell⟩ := own_shape2 hop hpl
    have HXP := Lib.hid (show X ≠ pg from by omega)
    have HPC := Lib.hid (fun (W : World) (h : W.heap[pg]? = some O) i (hi : i < n) => (show W.cell? ⟨pg, i, none⟩ = some (.string (ba (ps.getD i []))) from hpcell W h i _ (by simp [strsV, List.getD, show i < ps.length by omega])))
    have hx3 : w3.heap[X]? = _ := (hb3.block _ (Array.getElem?_eq_some_iff.1 hx2).1).trans hx2
    have hby3 : w3.heap[w.heap.size]? = _ := (hb3.block _ (Array.getElem?_eq_some_iff.1 hby2).1).trans hby2
    have hR3 := hR2.call hb3
    have hbel3 := below_trans hbel2 hb3
    rw [hn]
    clear hop hpcell hx2 hby2 hR2 hbel2 hb3 hpl hn
    go_wp2_with fail
    go_loopg [7] (n + 1) (fun g i wr => ∃ k : Nat, k ≤ n ∧ n - k < g ∧ i = .int .i64 k ∧ (∃ st ra rc, RefIs wr (w.heap.size + 1) (refV ra rc (textOf st.2) st.2.length) st ∧ wr.heap[X]? = some (.cells #[.slice ra 4 rc, .string (textOf st.2), .int .i64 (st.2.length : Nat)] 48 (0, 0)) ∧ BSok st ∧ runL ps.dropLast (zeros4, []) 0 = runL (ps.dropLast.drop k) st k) ∧ wr.heap[w.heap.size]? = some (boxO (.slice none 0 0)) ∧ wr.heap[pg]? = some O ∧ Below w.heap.size w wr)
    case atStart => exact ⟨0, by omega, by omega, rfl, ⟨(zeros4, []), ra, rc, hR3, hx3, zeros_ok, rfl⟩, hby3, hO, hbel3⟩
    case round =>
      clear hR3 hx3 hby3 hO hbel3
      obtain ⟨k, hk, hg, rfl, ⟨st, ra, rc, hR, hx, hok, hrun⟩, hby, hO, hbel⟩ := hrel
      have hwz := hbel.size
      have lX := (Array.getElem?_eq_some_iff.1 hx).1
      have lP := (Array.getElem?_eq_some_iff.1 hO).1
      have lB := (Array.getElem?_eq_some_iff.1 hby).1
      have x0 : wr.cell? ⟨X, 0, none⟩ = some (.slice ra 4 rc) := by simp [World.cell?, hx]
      have x1 : wr.cell? ⟨X, 1, none⟩ = some (.string (textOf st.2)) := by simp [World.cell?, hx]
      have x2 : wr.cell? ⟨X, 2, none⟩ = some (.int .i64 (st.2.length : Nat)) := by simp [World.cell?, hx]
      have b0 : wr.cell? ⟨w.heap.size, 0, none⟩ = some (.slice none 0 0) := by simp [World.cell?, hby]
      have b1 : wr.cell? ⟨w.heap.size, 1, none⟩ = some (.string ⟨#[]⟩) := by simp [World.cell?, hby]
      have b2 : wr.cell? ⟨w.heap.size, 2, none⟩ = some (.int .i64 0) := by simp [World.cell?, hby]
      have f0 : wr.frozen? ⟨w.heap.size, 0, none⟩ = false := by simp [World.frozen?, hby]
      have f1 : wr.frozen? ⟨w.heap.size, 1, none⟩ = false := by simp [World.frozen?, hby]
      have f2 : wr.frozen? ⟨w.heap.size, 2, none⟩ = false := by simp [World.frozen?, hby]
      by_cases hlt : k < n
      · have hki : (k : Int) + 1 < (n : Int) + 1 := by omega
        have hk0 : (0 : Int) ≤ k := by omega
        have hki2 : (k : Int) < (n : Int) + 1 := by omega
        have q0 := HPC.out wr hO k hlt
        have hkd : k < ps.dropLast.length := by rw [HDL.out]; exact hlt
        rw [drop_cons' _ k [] hkd, dropLast_getD _ k [] hkd] at hrun
        have hL := fun W (hq : Below wr.heap.size wr W) => RLine_any (ba (ps.getD k [])) W (w.heap.size + 1) _ st hok (hR.call hq) (by have := hq.size; omega) (HPZ.out k)
        have hok1 := lineE_ok hok (ps.getD k [])
        simp only [ba_toList] at hL
        generalize ps.getD k [] = l at q0 hL hrun hok1
        have HX := Lib.hid hx
        have HBY := Lib.hid hby
        have HO := Lib.hid hO
        have HL := Lib.hid hL
        have HRU := Lib.hid hrun
        have HOK1 := Lib.hid hok1
        clear hR hx hok hrun hby hO hL hok1 hkd
        go_upto_region 8 with (fail)
        have HSS := Lib.hid (fun W (hq : Below wr.heap.size wr W) => (show W.cell? ⟨X, 0, none⟩ = some (.slice ra 4 rc) ∧ W.cell? ⟨X, 1, none⟩ = some (.string (textOf st.2)) ∧ W.cell? ⟨X, 2, none⟩ = some (.int .i64 (st.2.length : Nat)) ∧ W.cell? ⟨pg, k, none⟩ = some (.string (ba l)) from
          ⟨by rw [hq.cell (p := ⟨X, 0, none⟩) lX]; exact x0, by rw [hq.cell (p := ⟨X, 1, none⟩) lX]; exact x1, by rw [hq.cell (p := ⟨X, 2, none⟩) lX]; exact x2, by rw [hq.cell (p := ⟨pg, k, none⟩) lP]; exact q0⟩))
        have hAL : ∀ o, Below wr.heap.size wr ((wr.alloc o).drew) := fun o => ((Below.refl _ _).alloc (Nat.le_refl _) o).trans Cls.start
        go_region_held3 (fun w' => w'.cell? ⟨X, 0, none⟩ = some (.slice ra 4 rc) ∧ w'.cell? ⟨X, 1, none⟩ = some (.string (textOf st.2)) ∧ w'.cell? ⟨X, 2, none⟩ = some (.int .i64 (st.2.length : Nat)) ∧ w'.cell? ⟨pg, k, none⟩ = some (.string (ba l)))
          (first | exact HSS.out _ Cls.start | exact HSS.out _ (hAL _) | exact HSS.out _ d1 | (refine HSS.out _ (below_trans d1 ?_); exact (Below.refl _ _).alloc (Nat.le_refl _) _) | exact HSS.out _ (open_store d1 (Nat.le_refl _)) | exact HSS.out _ (open_store3 d1))
          (first
            | (go_at_call 56; refine (HL.out _ (by exact Cls.start)).mono ?_; rintro e w6 ⟨⟨v6, rfl, hR6⟩, hb6⟩; obtain ⟨ra6, rc6, rfl, hrc6, hro6⟩ := hR6; have d1 : Below wr.heap.size wr w6 := below_trans (by exact Cls.start) hb6)
            | (go_at_call 56; refine (HL.out _ (by exact hAL _)).mono ?_; rintro e w6 ⟨⟨v6, rfl, hR6⟩, hb6⟩; obtain ⟨ra6, rc6, rfl, hrc6, hro6⟩ := hR6; have d1 : Below wr.heap.size wr w6 := below_trans (hAL _) hb6; obtain ⟨y0, y1, y2, g0, g1, g2⟩ := open_fresh hb6))
        · have hR6 : RefIs w6 (w.heap.size + 1) (refV ra6 rc6 (textOf (lineE l st).2.2) (lineE l st).2.2.length) (lineE l st).2 := ⟨ra6, rc6, rfl, hrc6, hro6⟩
          have hal : Below w6.heap.size w6 (w6.alloc (.cells #[.slice ra6 4 rc6, .string (textOf (lineE l st).2.2), .int .i64 ((lineE l st).2.2.length : Nat)] 48)) := (Below.refl _ _).alloc (Nat.le_refl _) _
          have hR7 := hR6.call hal
          have hb7 := below_trans d1 hal
          have hc7 : (w6.alloc (.cells #[.slice ra6 4 rc6, .string (textOf (lineE l st).2.2), .int .i64 ((lineE l st).2.2.length : Nat)] 48)).heap[w6.heap.size]? = some (.cells #[.slice ra6 4 rc6, .string (textOf (lineE l st).2.2), .int .i64 ((lineE l st).2.2.length : Nat)] 48 (0, 0)) := heap_alloc_new _ _
          clear hal hR6 d1 hro6 hrc6 hb6
          obtain ⟨c, hc⟩ : ∃ c, c = w6.heap.size := ⟨_, rfl⟩
          rw [← hc] at hc7 ⊢
          generalize w6.alloc (.cells #[.slice ra6 4 rc6, .string (textOf (lineE l st).2.2), .int .i64 ((lineE l st).2.2.length : Nat)] 48) = W7 at *
          clear hc w6
          have hx7 : W7.heap[X]? = _ := (hb7.block _ lX).trans HX.out
          have hby7 : W7.heap[w.heap.size]? = _ := (hb7.block _ lB).trans HBY.out
          have HO7 := Lib.hid ((hb7.block _ lP).trans HO.out)
          have hXb : X ≠ w.heap.size := by omega
          have HR7 := Lib.hid hR7
          have HB7 := Lib.hid (hbel.trans (hb7.mono hwz))
          have HX7 := Lib.hid hx7
          have HBY7 := Lib.hid hby7
          have c0 : W7.cell? ⟨c, 0, none⟩ = some (.slice ra6 4 rc6) := by simp [World.cell?, hc7]
          have c1 : W7.cell? ⟨c, 1, none⟩ = some (.string (textOf (lineE l st).2.2)) := by simp [World.cell?, hc7]
          have c2 : W7.cell? ⟨c, 2, none⟩ = some (.int .i64 ((lineE l st).2.2.length : Nat)) := by simp [World.cell?, hc7]
          have m0 : W7.cell? ⟨X, 0, none⟩ = some (.slice ra 4 rc) := by simp [World.cell?, hx7]
          have m1 : W7.cell? ⟨X, 1, none⟩ = some (.string (textOf st.2)) := by simp [World.cell?, hx7]
          have m2 : W7.cell? ⟨X, 2, none⟩ = some (.int .i64 (st.2.length : Nat)) := by simp [World.cell?, hx7]
          have k0 : W7.frozen? ⟨X, 0, none⟩ = false := by simp [World.frozen?, hx7]
          have k1 : W7.frozen? ⟨X, 1, none⟩ = false := by simp [World.frozen?, hx7]
          have k2 : W7.frozen? ⟨X, 2, none⟩ = false := by simp [World.frozen?, hx7]
          have n0 : W7.cell? ⟨w.heap.size, 0, none⟩ = some (.slice none 0 0) := by simp [World.cell?, hby7]
          have n1 : W7.cell? ⟨w.heap.size, 1, none⟩ = some (.string ⟨#[]⟩) := by simp [World.cell?, hby7]
          have n2 : W7.cell? ⟨w.heap.size, 2, none⟩ = some (.int .i64 0) := by simp [World.cell?, hby7]
          have j0 : W7.frozen? ⟨w.heap.size, 0, none⟩ = false := by simp [World.frozen?, hby7]
          have j1 : W7.frozen? ⟨w.heap.size, 1, none⟩ = false := by simp [World.frozen?, hby7]
          have j2 : W7.frozen? ⟨w.heap.size, 2, none⟩ = false := by simp [World.frozen?, hby7]
          clear hx7 hby7 hc7 hR7 hb7 hbel hwz lX lP lB x0 x1 x2 b0 b1 b2 f0 f1 f2 q0 hAL HX HBY HO HL HSS
          have HXB := Lib.hid hXb
          clear hXb
          by_cases hE0 : (lineE l st).1 = 0
          · have hrun7 := HRU.out
            rw [runL_good hE0] at hrun7
            have HRU7 := Lib.hid hrun7
            rw [hE0]
            clear hrun7 hE0 HRU n0 n1 n2 j0 j1 j2
            go_wp2_with fail
            go_roundg (n - k)
            case measure => omega
            case rel =>
              refine ⟨k + 1, by omega, by omega, by go_num, ⟨_, ra6, rc6, HR7.out.other HX7.out (put3_grown W7 X _ _ _), box_store3 HX7.out, HOK1.out, HRU7.out⟩, ?_, ?_, box_below3 HB7.out (by omega)⟩
              · exact ((put3_grown W7 X _ _ _).block _ (Array.getElem?_eq_some_iff.1 HBY7.out).1 (fun e => HXB.out (Option.some.inj e).symm)).trans HBY7.out
              · exact ((put3_grown W7 X _ _ _).block _ (Array.getElem?_eq_some_iff.1 HO7.out).1 (fun e => HXP.out (Option.some.inj e).symm)).trans HO7.out
          · have hrun7 := HRU.out
            rw [runL_bad hE0] at hrun7
            have HEE := Lib.hid (HE.out.trans hrun7)
            have HE0 := Lib.hid hE0
            clear hrun7 HRU k0 k1 k2
            go_wp2_with fail
            (try simp only [Exit.inBlock, Exit.then])
            refine bodyPost_ret (results_cell_row_tmp2 rfl _ _ w.heap.size 48 #[.slice none 0 0, .string ⟨#[]⟩, .int .i64 0] (0, 0) _ rfl (box_store3 HBY7.out) Tryz.underlying48 rfl (by kernel_rfl)) rfl ?_
            rw [HEE.out]
            exact ⟨⟨_, rfl, fun h => absurd h HE0.out, fun _ => rfl⟩, box_below3 HB7.out (Nat.le_refl _)⟩
        · have hR6 : RefIs w6 (w.heap.size + 1) (refV ra6 rc6 (textOf (lineE l st).2.2) (lineE l st).2.2.length) (lineE l st).2 := ⟨ra6, rc6, rfl, hrc6, hro6⟩
          have hbx := open_box hb6
          have hR7 := hR6.other hbx (put3_grown w6 wr.heap.size (.slice ra6 4 rc6) (.string (textOf (lineE l st).2.2)) (.int .i64 ((lineE l st).2.2.length : Nat)))
          have hc7 := box_store3 (a := .slice ra6 4 rc6) (b' := .string (textOf (lineE l st).2.2)) (c := .int .i64 ((lineE l st).2.2.length : Nat)) hbx
          have hb7 := open_store3 (a := .slice ra6 4 rc6) (b := .string (textOf (lineE l st).2.2)) (c := .int .i64 ((lineE l st).2.2.length : Nat)) d1
          clear hbx hR6 d1 hro6 hrc6 hb6 y0 y1 y2 g0 g1 g2
          unfold put3 at hR7
          generalize ((w6.setCell ⟨wr.heap.size, 0, none⟩ (.slice ra6 4 rc6)).setCell ⟨wr.heap.size, 1, none⟩ (.string (textOf (lineE l st).2.2))).setCell ⟨wr.heap.size, 2, none⟩ (.int .i64 ((lineE l st).2.2.length : Nat)) = W7 at *
          obtain ⟨c, hc⟩ : ∃ c, c = wr.heap.size := ⟨_, rfl⟩
          rw [← hc] at hc7 ⊢
          clear hc w6
          have hx7 : W7.heap[X]? = _ := (hb7.block _ lX).trans HX.out
          have hby7 : W7.heap[w.heap.size]? = _ := (hb7.block _ lB).trans HBY.out
          have HO7 := Lib.hid ((hb7.block _ lP).trans HO.out)
          have hXb : X ≠ w.heap.size := by omega
          have HR7 := Lib.hid hR7
          have HB7 := Lib.hid (hbel.trans (hb7.mono hwz))
          have HX7 := Lib.hid hx7
          have HBY7 := Lib.hid hby7
          have c0 : W7.cell? ⟨c, 0, none⟩ = some (.slice ra6 4 rc6) := by simp [World.cell?, hc7]
          have c1 : W7.cell? ⟨c, 1, none⟩ = some (.string (textOf (lineE l st).2.2)) := by simp [World.cell?, hc7]
          have c2 : W7.cell? ⟨c, 2, none⟩ = some (.int .i64 ((lineE l st).2.2.length : Nat)) := by simp [World.cell?, hc7]
          have m0 : W7.cell? ⟨X, 0, none⟩ = some (.slice ra 4 rc) := by simp [World.cell?, hx7]
          have m1 : W7.cell? ⟨X, 1, none⟩ = some (.string (textOf st.2)) := by simp [World.cell?, hx7]
          have m2 : W7.cell? ⟨X, 2, none⟩ = some (.int .i64 (st.2.length : Nat)) := by simp [World.cell?, hx7]
          have k0 : W7.frozen? ⟨X, 0, none⟩ = false := by simp [World.frozen?, hx7]
          have k1 : W7.frozen? ⟨X, 1, none⟩ = false := by simp [World.frozen?, hx7]
          have k2 : W7.frozen? ⟨X, 2, none⟩ = false := by simp [World.frozen?, hx7]
          have n0 : W7.cell? ⟨w.heap.size, 0, none⟩ = some (.slice none 0 0) := by simp [World.cell?, hby7]
          have n1 : W7.cell? ⟨w.heap.size, 1, none⟩ = some (.string ⟨#[]⟩) := by simp [World.cell?, hby7]
          have n2 : W7.cell? ⟨w.heap.size, 2, none⟩ = some (.int .i64 0) := by simp [World.cell?, hby7]
          have j0 : W7.frozen? ⟨w.heap.size, 0, none⟩ = false := by simp [World.frozen?, hby7]
          have j1 : W7.frozen? ⟨w.heap.size, 1, none⟩ = false := by simp [World.frozen?, hby7]
          have j2 : W7.frozen? ⟨w.heap.size, 2, none⟩ = false := by simp [World.frozen?, hby7]
          clear hx7 hby7 hc7 hR7 hb7 hbel hwz lX lP lB x0 x1 x2 b0 b1 b2 f0 f1 f2 q0 hAL HX HBY HO HL HSS
          have HXB := Lib.hid hXb
          clear hXb
          by_cases hE0 : (lineE l st).1 = 0
          · have hrun7 := HRU.out
            rw [runL_good hE0] at hrun7
            have HRU7 := Lib.hid hrun7
            rw [hE0]
            clear hrun7 hE0 HRU n0 n1 n2 j0 j1 j2
            go_wp2_with fail
            go_roundg (n - k)
            case measure => omega
            case rel =>
              refine ⟨k + 1, by omega, by omega, by go_num, ⟨_, ra6, rc6, HR7.out.other HX7.out (put3_grown W7 X _ _ _), box_store3 HX7.out, HOK1.out, HRU7.out⟩, ?_, ?_, box_below3 HB7.out (by omega)⟩
              · exact ((put3_grown W7 X _ _ _).block _ (Array.getElem?_eq_some_iff.1 HBY7.out).1 (fun e => HXB.out (Option.some.inj e).symm)).trans HBY7.out
              · exact ((put3_grown W7 X _ _ _).block _ (Array.getElem?_eq_some_iff.1 HO7.out).1 (fun e => HXP.out (Option.some.inj e).symm)).trans HO7.out
          · have hrun7 := HRU.out
            rw [runL_bad hE0] at hrun7
            have HEE := Lib.hid (HE.out.trans hrun7)
            have HE0 := Lib.hid hE0
            clear hrun7 HRU k0 k1 k2
            go_wp2_with fail
            (try simp only [Exit.inBlock, Exit.then])
            refine bodyPost_ret (results_cell_row_tmp2 rfl _ _ w.heap.size 48 #[.slice none 0 0, .string ⟨#[]⟩, .int .i64 0] (0, 0) _ rfl (box_store3 HBY7.out) Tryz.underlying48 rfl (by kernel_rfl)) rfl ?_
            rw [HEE.out]
            exact ⟨⟨_, rfl, fun h => absurd h HE0.out, fun _ => rfl⟩, box_below3 HB7.out (Nat.le_refl _)⟩
      · obtain rfl : n = k := by omega
        have hki : ¬ (n : Int) + 1 < (n : Int) + 1 := by omega
        rw [List.drop_eq_nil_of_le (by rw [HDL.out]; exact Nat.le_refl _), runL_nil] at hrun
        have HEE := Lib.hid (HE.out.trans hrun)
        have HR := Lib.hid hR
        have HBY := Lib.hid hby
        clear hrun hR hx hok hby hO
        go_wp2_with fail
        (try simp only [Exit.inBlock, Exit.then])
        refine bodyPost_ret (results_cell_row_tmp2 rfl _ _ w.heap.size 48 #[.slice ra 4 rc, .string (textOf st.2), .int .i64 (st.2.length : Nat)] (0, 0) _ rfl (box_store3 HBY.out) Tryz.underlying48 rfl (by kernel_rfl)) rfl ?_
        rw [HEE.out]
        refine ⟨⟨_, rfl, fun _ => ?_, fun h => absurd rfl h⟩, box_below3 hbel (Nat.le_refl _)⟩
        obtain ⟨a', c', e1, e2, e3⟩ := HR.out.other HBY.out (put3_grown wr w.heap.size _ _ _)
        exact ⟨a', c', e1, e2, e3.mono (by omega)⟩
end Go.Proofs.YtokneabcgmjhdaaGreatDoor
