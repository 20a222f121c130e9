/- Contract of book's Text. -/
import Derived.Test.YtokneabcgmjhdaaGreatDoorBookFn
import Derived.Lib.Builder
namespace Go.Proofs.YtokneabcgmjhdaaGreatDoor
open Go.RowKit
set_option linter.unusedVariables false
set_option linter.unusedSimpArgs false

/-- the text of so many lines -/
def textTo (lines : List ByteArray) : Nat → List UInt8
  | 0 => []
  | k + 1 => textTo lines k ++ ((lines.getD k ⟨#[]⟩).data.toList ++ [10])
def textOf (lines : List ByteArray) : ByteArray := ⟨(textTo lines lines.length).toArray⟩
theorem textTo_len (lines : List ByteArray) (h : ∀ k, (lines.getD k ⟨#[]⟩).size ≤ 1000) : ∀ k, (textTo lines k).length ≤ 1001 * k
  | 0 => by simp [textTo]
  | k + 1 => by
    have h1 := textTo_len lines h k
    have h2 : (lines.getD k ⟨#[]⟩).data.toList.length ≤ 1000 := h k
    simp only [textTo, List.length_append, List.length_cons, List.length_nil]
    omega
theorem str_cells (s : ByteArray) : Lib.strCells (s ++ { data := #[10] }) = Lib.byteCells (s.data.toList ++ [10]) := by
  unfold Lib.strCells Lib.byteCells
  simp

set_option maxRecDepth 100000 in
set_option maxHeartbeats 1000000 in
theorem Text_any (w : World) (B Bk G : Nat) (vs : List Value) (vl : Value) (rows : List (List Int)) (lines : List ByteArray) (hB : BookAt w B Bk G vs vl rows lines) (hn : lines.length ≤ 1000) (hs : ∀ k, (lines.getD k ⟨#[]⟩).size ≤ 1000) :
    Calls Tryz.prog 67 #[.pointer (some ⟨Bk, 0, none⟩)] w fun e w' => e = .returned (.string (textOf lines)) ∧ Below w.heap.size w w' := by
  have hlt := hB.lt
  have HB := Lib.hid hB
  have HTL := Lib.hid (textTo_len lines hs)
  have HS := Lib.hid hs
  have q1 := hB.cell1
  obtain ⟨a, cap, rfl, h1, h2, h3, h4⟩ := hB.logShape
  obtain ⟨n, hn'⟩ : ∃ n, n = lines.length := ⟨_, rfl⟩
  have HN := Lib.hid hn'
  unfold textOf
  rw [← hn'] at h4 hn q1 HB ⊢
  have H4 := Lib.hid h4
  clear hB h1 h2 h3 h4 hn' hs
  go_enter Tryz.func67, Tryz.ntmps67
  go_wp2_with fail
  go_loopg [11] (n + 1) (fun g i wr => ∃ k : Nat, k ≤ n ∧ n - k < g ∧ i = .int .i64 k ∧ Lib.IsBuilder 37 5 w.heap.size w.heap.size (Lib.byteCells (textTo lines k)) wr ∧ Below w.heap.size w wr)
  case atStart => exact ⟨0, by omega, by omega, rfl, Lib.fresh_isBuilder _ _ w, (Below.refl _ _).alloc (Nat.le_refl _) _⟩
  case round =>
    obtain ⟨k, hk, hg, rfl, hbu, hbel⟩ := hrel
    have HBU := Lib.hid hbu
    clear hbu
    by_cases hlt' : k < n
    · obtain ⟨g, rfl, c1⟩ := H4.out k hlt'
      have z1 := World.block_lt_of_cell? _ _ c1
      have c2 : wr.cell? ⟨g, k, none⟩ = some (.string (lines.getD k ⟨#[]⟩)) := by rw [hbel.cell (p := ⟨g, k, none⟩) z1]; exact c1
      have hk0 : (0 : Int) ≤ k := by omega
      have hk1 : (k : Int) < n := by omega
      have hsk := HS.out k
      have htl := HTL.out k
      obtain ⟨s, hs⟩ : ∃ s, s = lines.getD k ⟨#[]⟩ := ⟨_, rfl⟩
      rw [← hs] at c1 c2 hsk
      have HSS := Lib.hid hs
      have HW := Lib.hid (Tryz.Builder_WriteString w.heap.size w.heap.size (Lib.byteCells (textTo lines k)) (s ++ { data := #[10] }) wr HBU.out (by rw [Lib.byteCells_length, ByteArray.size_append]; show _ + (s.size + 1) ≤ _; omega) hbel.size)
      clear hs c1
      go_wp2_with fail
      go_at_call 18
      refine HW.out.mono ?_
      rintro e w2 ⟨rfl, hb2, hbb⟩
      have HB2 := Lib.hid (show Lib.IsBuilder 37 5 w.heap.size w.heap.size (Lib.byteCells (textTo lines (k + 1))) w2 from by
        rw [textTo, ← HSS.out]
        rw [str_cells, ← Lib.byteCells_append] at hb2
        exact Or.inr hb2)
      have hB2 := hbel.trans hbb
      clear hb2
      go_wp2_with fail
      go_roundg (n - k)
      case measure => omega
      case rel => exact ⟨k + 1, by omega, by omega, by go_num, HB2.out, hB2⟩
    · obtain rfl : n = k := by omega
      have HSt := Lib.hid (Tryz.Builder_String_any w.heap.size w.heap.size (textTo lines n) wr HBU.out hbel.size)
      go_wp2_with fail
      go_at_call 20
      refine HSt.out.mono ?_
      rintro e w2 ⟨rfl, hbb⟩
      go_wp2_with fail
      go_ret
      exact ⟨rfl, hbel.trans hbb⟩
end Go.Proofs.YtokneabcgmjhdaaGreatDoor
