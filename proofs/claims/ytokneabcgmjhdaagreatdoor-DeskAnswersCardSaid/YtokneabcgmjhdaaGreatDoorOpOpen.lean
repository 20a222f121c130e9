/- Contract of book's Open. -/
import Derived.Test.YtokneabcgmjhdaaGreatDoorOpLine
namespace Go.Proofs.YtokneabcgmjhdaaGreatDoor
open Go.RowKit
set_option linter.unusedVariables false
set_option linter.unusedSimpArgs false

theorem runL_nil (s : BS) (k : Nat) : runL [] s k = (0, k, s) := rfl
theorem runL_good {l : List UInt8} {r : List (List UInt8)} {s : BS} {k : Nat} (h : (lineE l s).1 = 0) : runL (l :: r) s k = runL r (lineE l s).2 (k + 1) := by rw [runL, if_pos h]
theorem runL_bad {l : List UInt8} {r : List (List UInt8)} {s : BS} {k : Nat} (h : (lineE l s).1 ≠ 0) : runL (l :: r) s k = ((lineE l s).1, k + 1, s) := by rw [runL, if_neg h]
theorem drop_cons' {α : Type} (l : List α) (k : Nat) (d : α) (h : k < l.length) : l.drop k = l.getD k d :: l.drop (k + 1) := by
  rw [List.drop_eq_getElem_cons h]
  simp [List.getD, h]
theorem dropLast_getD {α : Type} (l : List α) (k : Nat) (d : α) (h : k < l.dropLast.length) : l.dropLast.getD k d = l.getD k d := by
  rw [List.getD_eq_getElem?_getD, List.getD_eq_getElem?_getD, List.getElem?_dropLast]
  rw [List.length_dropLast] at h
  rw [if_pos h]

theorem Glob.mono {A B : Nat} {w : World} (h : Glob A w) (hAB : A ≤ B) : Glob B w :=
  ⟨fun w' hb => h.1 w' (hb.mono hAB), ⟨Nat.lt_of_lt_of_le h.2.1.1 hAB, h.2.1.2⟩, Nat.lt_of_lt_of_le h.2.2.1 hAB, h.2.2.2⟩
theorem BookAt.mono {w : World} {A B Bk G : Nat} {vs : List Value} {vl : Value} {rows : List (List Int)} {lines : List ByteArray} (h : BookAt w B Bk G vs vl rows lines) (hAB : A ≤ B) : BookAt w A Bk G vs vl rows lines := by
  refine ⟨Nat.le_trans hAB h.base, h.box, h.own.mono hAB, ?_, h.sq, h.ent⟩
  refine ⟨h.log.1, ?_⟩
  rcases h.log.2 with hn | ⟨g, cap, cur, e1, e2, e3⟩
  · exact Or.inl hn
  · exact Or.inr ⟨g, cap, cur, e1, by omega, e3⟩

set_option maxRecDepth 100000 in
set_option maxHeartbeats 2000000 in
theorem Open_any (t : ByteArray) (w : World) (hG : Glob w.heap.size w) :
    Calls Tryz.prog 68 #[.string t] w fun e w' => ((∃ Bk G vs vl, e = .returned (.tuple #[.pointer (some ⟨Bk, 0, none⟩), .int .i64 ((openE t.data.toList).2.1 : Nat), .nilIface]) ∧ (openE t.data.toList).1 = 0 ∧ BookAt w' w.heap.size Bk G vs vl (openE t.data.toList).2.2.1 (openE t.data.toList).2.2.2)
      ∨ (e = .returned (.tuple #[.pointer none, .int .i64 ((openE t.data.toList).2.1 : Nat), errV (openE t.data.toList).1]) ∧ (openE t.data.toList).1 ≠ 0)) ∧ Below w.heap.size w w' := by
  by_cases hl : 2000 < t.size
  · have hE : openE t.data.toList = (4, 0, (zeros4, [])) := if_pos (by rw [size_list]; exact hl)
    have HE := Lib.hid hE
    have hli : (2000 : Int) < t.size := by omega
    clear hE hG
    go_enter Tryz.func68, Tryz.ntmps68
    go_wp2_with fail
    go_ret3
    rw [HE.out]
    exact ⟨Or.inr ⟨rfl, by decide⟩, Below.refl _ _⟩
  · have hE : openE t.data.toList = runL (linesOf t.data.toList) (zeros4, []) 0 := if_neg (by rw [size_list]; exact hl)
    have hli : ¬ (2000 : Int) < t.size := by omega
    have HSP := Lib.hid (Split_any t 10 w.heap.size w hG (by omega))
    obtain ⟨ps, hps⟩ : ∃ ps, ps = cutL 10 t.data.toList := ⟨_, rfl⟩
    have HPS := Lib.hid (fun j => (show (ba (ps.getD j [])).size ≤ 3000 from by rw [hps]; have := piece_size (c := 10) (l := t.data.toList) j; rw [size_list] at this; omega))
    rw [← hps] at HSP
    have hlines : linesOf t.data.toList = ps.dropLast := by unfold linesOf; rw [← hps]
    rw [hlines] at hE
    have hne : ps ≠ [] := by rw [hps]; exact cutL_ne _ _
    obtain ⟨n, hn⟩ : ∃ n, ps.length = n + 1 := ⟨ps.length - 1, by have := List.length_pos_iff.2 hne; omega⟩
    have hdl : ps.dropLast.length = n := by rw [List.length_dropLast, hn]; rfl
    rw [hn] at HSP
    have hn2 : n ≤ 2000 := by
      have h1 := cutL_len 10 t.data.toList
      rw [← hps, hn] at h1
      have h2 := List.count_le_length (a := (10 : UInt8)) (l := t.data.toList)
      rw [size_list] at h2
      omega
    have HE := Lib.hid hE
    have HG := Lib.hid hG
    have HDL := Lib.hid hdl
    have HN := Lib.hid hn
    have HPP := Lib.hid (fun (W : World) (h : W.heap[w.heap.size]? = some (piecesO ps)) k (hk : k < n) => (show W.cell? ⟨w.heap.size, k, none⟩ = some (.string (ba (ps.getD k []))) from pieces_at h (by omega)))
    clear hE hG hps hlines hne hdl hn
    go_enter Tryz.func68, Tryz.ntmps68
    go_wp2_with fail
    go_at_call 16
    refine HSP.out.mono ?_
    rintro e w1 ⟨rfl, hw1e⟩
    have hh1 : w1.heap[w.heap.size]? = some (piecesO ps) := by rw [hw1e]; exact heap_alloc_new _ _
    have hbw1 : Below w.heap.size w w1 := by rw [hw1e]; exact (Below.refl _ _).alloc (Nat.le_refl _) _
    clear hw1e
    go_wp2_with fail
    go_at_call 15
    refine (New_any _).mono ?_
    rintro e w2 ⟨Bk, G, vs, rfl, hbk, hB, hb2⟩
    have hB2 := hb2.size
    have hwB := hbw1.size
    have hh2 : w2.heap[w.heap.size]? = some (piecesO ps) := by rw [hb2.block _ (Array.getElem?_eq_some_iff.1 hh1).1]; exact hh1
    have hlB : w.heap.size < w1.heap.size := (Array.getElem?_eq_some_iff.1 hh1).1
    have HH := Lib.hid (fun W (h : Below w1.heap.size w1 W) => (show W.heap[w.heap.size]? = some (piecesO ps) from by rw [h.block _ hlB]; exact hh1))
    have HW1 := Lib.hid hbw1
    obtain ⟨B, hBe⟩ : ∃ B, B = w1.heap.size := ⟨_, rfl⟩
    rw [← hBe] at hB hb2 hwB hlB HH hB2
    have hB1 : B ≤ w1.heap.size := by omega
    clear hh1 hh2 hbw1 hBe hbk
    go_wp2_with fail
    go_loopg [24] (n + 1) (fun g i wr => ∃ k : Nat, k ≤ n ∧ n - k < g ∧ i = .int .i64 k ∧ (∃ st vl, BookAt wr B Bk G vs vl st.1 st.2 ∧ runL ps.dropLast (zeros4, []) 0 = runL (ps.dropLast.drop k) st k) ∧ Below B w1 wr)
    case atStart => exact ⟨0, by omega, by omega, rfl, ⟨(zeros4, []), _, hB, rfl⟩, hb2⟩
    case round =>
      clear hB hb2 hB2
      obtain ⟨k, hk, hg, rfl, ⟨st, vl, hBr, hrun⟩, hbel⟩ := hrel
      have hBw := hbel.size
      have hbelw : Below w.heap.size w wr := HW1.out.trans (hbel.mono hwB)
      by_cases hlt : k < n
      · have hki : (k : Int) < n := by omega
        have hk0 : (0 : Int) ≤ k := by omega
        have q0 := HPP.out wr (HH.out wr hbel) k hlt
        have hkd : k < ps.dropLast.length := by rw [HDL.out]; exact hlt
        have hL := Line_any (ba (ps.getD k [])) wr B Bk G vs vl st hBr (Nat.le_trans hB1 hBw) ((HG.out.call hbelw).mono hwB) (HPS.out k)
        rw [ba_toList] at hL
        rw [drop_cons' _ k [] hkd, dropLast_getD _ k [] hkd] at hrun
        have HBR := Lib.hid hBr
        generalize ps.getD k [] = l at q0 hL hrun
        clear hBr hkd
        by_cases hE : (lineE l st).1 = 0
        · rw [hE, errV_zero] at hL
          rw [runL_good hE] at hrun
          have HRUN := Lib.hid hrun
          clear hrun hE
          go_wp2_with fail
          go_at_call 96
          refine hL.mono ?_
          rintro e w3 ⟨rfl, ⟨vl3, hB3, -⟩, hK3⟩
          have HB3 := Lib.hid hB3
          have hb3 := hbel.trans (hK3.below HBR.out)
          clear hB3 hL hK3
          go_wp2_with fail
          go_roundg (n - k)
          case measure => omega
          case rel => exact ⟨k + 1, by omega, by omega, by go_num, ⟨_, vl3, HB3.out, HRUN.out⟩, hb3⟩
        · rw [errV_pos hE] at hL
          rw [runL_bad hE] at hrun
          have hEE := HE.out.trans hrun
          have HEE := Lib.hid hEE
          have HE0 := Lib.hid hE
          clear hrun hE hEE
          go_wp2_with fail
          go_at_call 96
          refine hL.mono ?_
          rintro e w3 ⟨rfl, hBD, hK3⟩
          have hb3 := hbel.trans (hK3.below HBR.out)
          clear hL hK3 hBD
          go_wp2_with fail
          go_ret3
          rw [HEE.out]
          refine ⟨Or.inr ⟨?_, HE0.out⟩, HW1.out.trans (hb3.mono hwB)⟩
          rw [errV_pos HE0.out]
          simp
      · obtain rfl : n = k := by omega
        rw [List.drop_eq_nil_of_le (by rw [HDL.out]; exact Nat.le_refl _), runL_nil] at hrun
        have HEE := Lib.hid (HE.out.trans hrun)
        have HBR := Lib.hid hBr
        clear hrun hBr
        go_wp2_with fail
        go_ret3
        rw [HEE.out]
        exact ⟨Or.inl ⟨Bk, G, vs, vl, rfl, rfl, HBR.out.mono hwB⟩, hbelw⟩
end Go.Proofs.YtokneabcgmjhdaaGreatDoor
