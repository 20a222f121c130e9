/- Contracts of the reference for books: NewBook, down. -/
import Derived.Test.YtokneabcgmjhdaaGreatDoorRefDig
import Derived.Test.YtokneabcgmjhdaaGreatDoorRefSum
import Derived.Test.YtokneabcgmjhdaaGreatDoorBookDetM
import Derived.Test.YtokneabcgmjhdaaGreatDoorBookText
import Derived.Test.YtokneabcgmjhdaaGreatDoorRCopy
import Derived.Test.YtokneabcgmjhdaaGreatDoorRMod
import Derived.Handy
import Derived.Deep.OwnRows
namespace Go.Proofs.YtokneabcgmjhdaaGreatDoor
open Go.RowKit
set_option linter.unusedVariables false
set_option linter.unusedSimpArgs false

/-- a book of the reference -/
abbrev refV (a : Option Addr) (cap : Nat) (text : ByteArray) (many : Int) : Value := .agg #[.slice a 4 cap, .string text, .int .i64 many]
theorem own_four (w : World) : OwnInts (w.alloc (.cells #[.int .i64 0, .int .i64 0, .int .i64 0, .int .i64 0] 3)) w.heap.size (.slice (some ⟨w.heap.size, 0, none⟩) 4 4) [0, 0, 0, 0] := by
  refine ⟨rfl, Or.inr ⟨w.heap.size, 4, #[.int .i64 0, .int .i64 0, .int .i64 0, .int .i64 0], rfl, Nat.le_refl _, heap_alloc_new _ _, ?_⟩⟩
  exact ⟨by decide, by unfold maxLen; omega, by decide, rfl⟩
theorem make_four (W : World) : (Instr.makeSlice 62 (.int .i64 4) (.int .i64 4)).run Tryz.prog W = .ok (.slice (some ⟨W.heap.size, 0, none⟩) 4 4) (W.alloc (.cells #[.int .i64 0, .int .i64 0, .int .i64 0, .int .i64 0] 3)) :=
  (run_make_row' 62 3 (.int .i64 0) 8 Tryz.underlying62 info_int rfl .i64 .i64 4 (by omega) (by omega) W).trans (by rw [show madeCells #[Value.int .i64 0] 4 = #[.int .i64 0, .int .i64 0, .int .i64 0, .int .i64 0] from by kernel_rfl])
/-- a book of the reference in a box -/
abbrev boxO (v : Value) : Obj := .cells #[v, .string ⟨#[]⟩, .int .i64 0] 48 (0, 0)
abbrev fourO : Obj := .cells #[.int .i64 0, .int .i64 0, .int .i64 0, .int .i64 0] 3
theorem newBook_step {w wr w3 : World} {B k : Nat} {v v3 : Value} {vs : List Value} {o2 : Obj} (h : OwnRowsV wr (B + 2) v vs (List.replicate k [0, 0, 0, 0])) (hb1 : wr.heap[B + 1]? = some (boxO v)) (hb0 : wr.heap[B]? = some (boxO (.slice none 0 0))) (hbel : Below B w wr)
    (ho : w3.ownsRow (B + 2) 62 1 v3 (vs.length + 1) (vs ++ [.slice (some ⟨wr.heap.size, 0, none⟩) 4 4])) (hg : (((wr.alloc fourO).alloc o2).drew).grownBy w3 v.ownBlock) :
    (w3.setCell ⟨B + 1, 0, none⟩ v3).heap[B + 1]? = some (boxO v3) ∧ OwnRows (w3.setCell ⟨B + 1, 0, none⟩ v3) (B + 2) v3 (List.replicate (k + 1) [0, 0, 0, 0]) ∧ (w3.setCell ⟨B + 1, 0, none⟩ v3).heap[B]? = some (boxO (.slice none 0 0)) ∧ Below B w (w3.setCell ⟨B + 1, 0, none⟩ v3) ∧ w3.cell? ⟨B + 1, 0, none⟩ = some v ∧ w3.frozen? ⟨B + 1, 0, none⟩ = false := by
  have hsz : B + 2 ≤ wr.heap.size := by have := (Array.getElem?_eq_some_iff.1 hb1).1; omega
  have hg' : ((wr.alloc fourO).alloc o2).grownBy w3 v.ownBlock := ⟨hg.os, hg.tape, hg.output, hg.size, hg.block⟩
  have hsn := OwnRowsV.snoc h hsz ((Below.refl _ _).alloc (Nat.le_refl _) fourO) (own_four wr) ho hg'
  have hlow : ∀ b, v.ownBlock = some b → B + 2 ≤ b := fun b hb => (World.ownsRow.lt h.1 b hb).1
  have hg2 : wr.grownBy w3 v.ownBlock := grown_alloc (grown_alloc hg')
  have e1 : w3.heap[B + 1]? = some (boxO v) := by rw [hg2.block (B + 1) (by omega) (fun e => by have := hlow _ e.symm; omega)]; exact hb1
  have e0 : w3.heap[B]? = some (boxO (.slice none 0 0)) := by rw [hg2.block B (by omega) (fun e => by have := hlow _ e.symm; omega)]; exact hb0
  have hst := grown_setCell w3 (B + 1) 0 v3
  refine ⟨?_, ?_, ?_, ?_, by simp [World.cell?, e1], by simp [World.frozen?, e1]⟩
  · show (w3.heap.modify (B + 1) _)[B + 1]? = _
    rw [Array.getElem?_modify, if_pos rfl, e1]
    rfl
  · obtain ⟨vs', hvs'⟩ := hsn.vals
    rw [show List.replicate (k + 1) [(0 : Int), 0, 0, 0] = List.replicate k [0, 0, 0, 0] ++ [[0, 0, 0, 0]] from List.replicate_succ']
    refine (hvs'.keptBy hst (fun e => ?_) (fun i hi e => ?_)).rows
    · have := (hvs'.1.lt _ e).1; omega
    · have := ((hvs'.2.2.1 i hi).lt _ e).1; omega
  · rw [hst.block B (by have := (Array.getElem?_eq_some_iff.1 e0).1; omega) (by simp)]; exact e0
  · exact ((hbel.trans (grown_below hg2 (by omega) (fun b hb => by have := hlow b hb; omega))).setCell (p := ⟨B + 1, 0, none⟩) (by show B ≤ B + 1; omega) v3)
/-- a box is written whole -/
theorem box_store3 {W : World} {b : Nat} {x y z a b' c : Value} {t : TypeId} {fr : Nat × Nat} (h : W.heap[b]? = some (.cells #[x, y, z] t fr)) :
    (((W.setCell ⟨b, 0, none⟩ a).setCell ⟨b, 1, none⟩ b').setCell ⟨b, 2, none⟩ c).heap[b]? = some (.cells #[a, b', c] t fr) := by
  have h1 : ∀ (W : World) (p q r v : Value) (i : Nat), W.heap[b]? = some (.cells #[p, q, r] t fr) → (W.setCell ⟨b, i, none⟩ v).heap[b]? = some (.cells (#[p, q, r].setIfInBounds i v) t fr) := fun W p q r v i h => by
    show (W.heap.modify b _)[b]? = _
    rw [Array.getElem?_modify, if_pos rfl, h]
    rfl
  exact h1 _ a b' z c 2 (h1 _ a y z b' 1 (h1 W x y z a 0 h))
theorem box_below3 {W : World} {B b : Nat} {a b' c : Value} {w : World} (h : Below B w W) (hB : B ≤ b) : Below B w (((W.setCell ⟨b, 0, none⟩ a).setCell ⟨b, 1, none⟩ b').setCell ⟨b, 2, none⟩ c) :=
  ((h.setCell (p := ⟨b, 0, none⟩) hB a).setCell (p := ⟨b, 1, none⟩) hB b').setCell (p := ⟨b, 2, none⟩) hB c
theorem one_newD (W : World) (o1 : Obj) (x : Value) (t : TypeId) (j : Nat) (u : Value) (h : [x][j]? = some u) : (((W.alloc o1).alloc (.cells #[x] t)).drew).cell? ((⟨W.heap.size + 1, 0, none⟩ : Addr).add j) = some u := by
  match j with
  | 0 =>
    obtain rfl : x = u := by simpa using h
    rw [World.cell?_drew]
    exact World.cell?_alloc_at #[x] t (W.heap.size + 1) 0 (by simp)
  | j + 1 => simp at h
theorem NewBook_any (w : World) : Calls Tryz.prog 21 #[] w fun e w' => ∃ a cap, e = .returned (refV a cap ⟨#[]⟩ 0) ∧ OwnRows w' w.heap.size (.slice a 4 cap) zeros4 ∧ 4 ≤ cap ∧ Below w.heap.size w w' := by
  obtain ⟨ji, hj, hy0, hy1, hy2⟩ := info_parts info_ints
  obtain ⟨B, hB⟩ : ∃ B, B = w.heap.size := ⟨_, rfl⟩
  have HB := Lib.hid hB
  rw [← hB]
  clear hB
  go_enter Tryz.func21, Tryz.ntmps21
  go_wp2_with fail
  rw [← HB.out]
  go_loopg [2] 5 (fun g i wr => ∃ k : Nat, k ≤ 4 ∧ 4 - k < g ∧ i = .int .i64 k ∧ (∃ v, wr.heap[B + 1]? = some (.cells #[v, .string ⟨#[]⟩, .int .i64 0] 48 (0, 0)) ∧ OwnRows wr (B + 2) v (List.replicate k [0, 0, 0, 0])) ∧ wr.heap[B]? = some (.cells #[.slice none 0 0, .string ⟨#[]⟩, .int .i64 0] 48 (0, 0)) ∧ Below B w wr)
  case atStart =>
    refine ⟨0, by omega, by omega, rfl, ⟨.slice none 0 0, ?_, ?_⟩, ?_, ?_⟩
    · rw [HB.out]; exact heap_alloc2_new _ _ _
    · exact OwnRows.nil _ _
    · rw [HB.out, heap_alloc_old _ _ (by simp)]; exact heap_alloc_new _ _
    · have hle := HB.out; exact ((Below.refl _ _).alloc (by omega) _).alloc (by simp; omega) _
  case round =>
    obtain ⟨k, hk, hg, rfl, ⟨v, hb1, ho⟩, hb0, hbel⟩ := hrel
    obtain ⟨vs, hvs⟩ := ho.vals
    obtain ⟨va, vn, vc, rfl⟩ := own_slice hvs.1
    have hvl : vs.length = k := by rw [hvs.2.1]; simp
    have HVS := Lib.hid hvs
    clear hvs ho
    have q0 : wr.cell? ⟨B + 1, 0, none⟩ = some (.slice va vn vc) := by simp [World.cell?, hb1]
    have q1 : wr.frozen? ⟨B + 1, 0, none⟩ = false := by simp [World.frozen?, hb1]
    have q2 : wr.cell? ⟨B + 1, 1, none⟩ = some (.string ⟨#[]⟩) := by simp [World.cell?, hb1]
    have q3 : wr.cell? ⟨B + 1, 2, none⟩ = some (.int .i64 0) := by simp [World.cell?, hb1]
    have HB1 := Lib.hid hb1
    have HB0 := Lib.hid hb0
    clear hb1 hb0
    by_cases hlt : k < 4
    · have hmk := make_four
      have hk4 : (k : Int) < 4 := by omega
      go_wp2_with fail
      have HN := Lib.hid (fun o2 v3 w3 => newBook_step (w := w) (w3 := w3) (v3 := v3) (o2 := o2) HVS.out HB1.out HB0.out hbel)
      have hsz : B + 2 ≤ wr.heap.size := by have := (Array.getElem?_eq_some_iff.1 HB1.out).1; omega
      have hlt1 : B + 1 < wr.heap.size := by omega
      have hlt2 : B < wr.heap.size := by omega
      have HOW := Lib.hid (fun o2 => (HVS.out.1.call (w' := ((wr.alloc fourO).alloc o2).drew) ((((Below.refl _ _).alloc (Nat.le_refl _) fourO).alloc (by simp) o2).trans Cls.start)))
      go_region_law (go_loud (refine step_append_own2 rfl _ _ 46 rfl (B + 2) 62 ji (.slice none 0 0) 24 Tryz.underlying46 hj hy0 hy1 hy2 rfl (.slice va vn vc) vs.length vs rfl (HOW.out _) ⟨_, 0, none⟩ 1 1 [.slice (some ⟨wr.heap.size, 0, none⟩) 4 4] rfl rfl (one_newD _ _ _ _) (by simp [Value.oneCell']) (by unfold maxLen; omega) (by omega) (by simp; omega) ?_; intro v3 w3 ho hgr _; have HS := Lib.hid (HN.out _ v3 w3 ho hgr); have r1 := HS.out.2.2.2.2.1; have r2 := HS.out.2.2.2.2.2; obtain ⟨a3, l3, c3, rfl⟩ := own_slice ho; clear ho hgr))
      all_goals
        go_wp2_with fail
        go_roundg (4 - k)
        case measure => omega
        case rel => exact ⟨k + 1, by omega, by omega, by go_num, ⟨_, HS.out.1, HS.out.2.1⟩, HS.out.2.2.1, HS.out.2.2.2.1⟩
    · obtain rfl : k = 4 := by omega
      obtain ⟨G, cap, e, hcap⟩ := HVS.out.isRows (by rw [← HVS.out.2.1]; omega)
      rw [show (List.replicate 4 [(0 : Int), 0, 0, 0]).length = 4 from rfl] at e hcap
      simp only [Value.slice.injEq] at e
      obtain ⟨rfl, rfl, rfl⟩ := e
      have q4 : wr.cell? ⟨B, 0, none⟩ = some (.slice none 0 0) := by simp [World.cell?, HB0.out]
      have q5 : wr.frozen? ⟨B, 0, none⟩ = false := by simp [World.frozen?, HB0.out]
      have q6 : wr.cell? ⟨B, 1, none⟩ = some (.string ⟨#[]⟩) := by simp [World.cell?, HB0.out]
      have q7 : wr.frozen? ⟨B, 1, none⟩ = false := by simp [World.frozen?, HB0.out]
      have q8 : wr.cell? ⟨B, 2, none⟩ = some (.int .i64 0) := by simp [World.cell?, HB0.out]
      have q9 : wr.frozen? ⟨B, 2, none⟩ = false := by simp [World.frozen?, HB0.out]
      go_wp2_with fail
      (try simp only [Exit.inBlock, Exit.then])
      refine bodyPost_ret (results_cell_row rfl _ _ B 48 #[.slice (some ⟨G, 0, none⟩) 4 vc, .string ⟨#[]⟩, .int .i64 0] (0, 0) _ rfl (box_store3 HB0.out) Tryz.underlying48 rfl (by kernel_rfl)) rfl ?_
      have hBw := HB.out
      refine ⟨_, _, rfl, ?_, hcap, box_below3 hbel (Nat.le_refl B)⟩
      exact ((((HVS.out.storeLow (g := B) (by omega) 0 (.slice (some ⟨G, 0, none⟩) 4 vc)).storeLow (g := B) (by omega) 1 (.string ⟨#[]⟩)).storeLow (g := B) (by omega) 2 (.int .i64 0)).mono (by omega)).rows
end Go.Proofs.YtokneabcgmjhdaaGreatDoor
