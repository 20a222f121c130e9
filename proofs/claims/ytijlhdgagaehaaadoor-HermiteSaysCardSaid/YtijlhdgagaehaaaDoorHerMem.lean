/- Memory of the normal form: a matrix of the call's own, and its box. Contract of hermite.form's inner function. -/
import Derived.Test.YtijlhdgagaehaaaDoorPut
import Derived.Test.YtijlhdgagaehaaaDoorRowsLaw
import Derived.Test.YtijlhdgagaehaaaDoorBareMem
import Derived.Deep.LoopGhost
import Derived.BigQuiet
import Derived.StillTailTactics
namespace Go.Proofs.YtijlhdgagaehaaaDoor
open Go.RowKit
set_option linter.unusedVariables false
set_option linter.unusedSimpArgs false

/-- the state of memory -/
structure HMem (w wr : World) (B G n : Nat) (vs : List Value) (T : List (List Int)) : Prop where
  own : OwnRowsV wr B (.slice (some ⟨G, 0, none⟩) n n) vs T
  box : wr.cell? ⟨w.heap.size, 0, none⟩ = some (.slice (some ⟨G, 0, none⟩) n n)
  bel : Below w.heap.size w wr
  hB : w.heap.size < B
  sq : Sq n T

theorem HMem.call {w wr w2 : World} {B G n : Nat} {vs : List Value} {T : List (List Int)} (h : HMem w wr B G n vs T) (hb : Below wr.heap.size wr w2) : HMem w w2 B G n vs T :=
  ⟨h.own.call hb, by rw [hb.cell (p := ⟨w.heap.size, 0, none⟩) (World.block_lt_of_cell? _ _ h.box)]; exact h.box, h.bel.trans (hb.mono h.bel.size), h.hB, h.sq⟩
theorem HMem.at {w wr : World} {B G n : Nat} {vs : List Value} {T : List (List Int)} (h : HMem w wr B G n vs T) {i j : Nat} (hi : i < n) (hj : j < n) :
    ∃ g rc, wr.cell? ⟨G, i, none⟩ = some (.slice (some ⟨g, 0, none⟩) n rc) ∧ vs.getD i undef = .slice (some ⟨g, 0, none⟩) n rc ∧ wr.frozen? ⟨g, j, none⟩ = false ∧ wr.cell? ⟨g, j, none⟩ = some (.int .i64 (fn T i j)) ∧
      ∀ x, HMem w (wr.setCell ⟨g, j, none⟩ (.int .i64 x)) B G n vs (putE T i j x) := by
  obtain ⟨g, rc, h1, h2, h3, h4, h5, h6, h7, h8⟩ := h.own.at h.sq hi hj
  have hB := h.hB
  refine ⟨g, rc, h1, h5, h6, h7, fun x => ⟨h8 x, ?_, h.bel.setCell (p := ⟨g, j, none⟩) (by show w.heap.size ≤ g; omega) _, h.hB, put_sq h.sq _ _ _⟩⟩
  exact (grown_setCell wr g j _).cell h.box (by intro he; have he := Option.some.inj he; dsimp only at he; omega)
theorem HMem.swap {w wr : World} {B G n : Nat} {vs : List Value} {T : List (List Int)} (h : HMem w wr B G n vs T) {i j : Nat} (hi : i < n) (hj : j < n) :
    HMem w ((wr.setCell ⟨G, i, none⟩ (vs.getD j undef)).setCell ⟨G, j, none⟩ (vs.getD i undef)) B G n (swapVs vs i j) (swapL T i j) := by
  have hl := h.sq.1
  have hvl : vs.length = n := by rw [h.own.2.1, hl]
  obtain ⟨hG1, hG2⟩ := h.own.base
  have hB := h.hB
  refine ⟨h.own.swap (by omega) (by omega), ?_, ?_, h.hB, sq_swap h.sq hi hj⟩
  · exact (grown_setCell _ G j _).cell ((grown_setCell wr G i _).cell h.box (by intro he; have he := Option.some.inj he; dsimp only at he; omega)) (by intro he; have he := Option.some.inj he; dsimp only at he; omega)
  · exact (h.bel.setCell (p := ⟨G, i, none⟩) (by show w.heap.size ≤ G; omega) _).setCell (p := ⟨G, j, none⟩) (by show w.heap.size ≤ G; omega) _
theorem HMem.head {w wr : World} {B G n : Nat} {vs : List Value} {T : List (List Int)} (h : HMem w wr B G n vs T) {i : Nat} (hi : i < n) : wr.cell? ⟨G, i, none⟩ = some (vs.getD i undef) ∧ wr.frozen? ⟨G, i, none⟩ = false :=
  ⟨h.own.isCell (by rw [h.sq.1]; exact hi), h.own.free i⟩

theorem HMem.store {w wr : World} {B G n : Nat} {vs : List Value} {T : List (List Int)} (h : HMem w wr B G n vs T) {i j g rc : Nat} (hi : i < n) (hj : j < n) (hg : vs.getD i undef = .slice (some ⟨g, 0, none⟩) n rc) (x : Int) :
    HMem w (wr.setCell ⟨g, j, none⟩ (.int .i64 x)) B G n vs (putE T i j x) := by
  obtain ⟨g', rc', _, h1, _, _, h2⟩ := h.at hi hj
  rw [hg] at h1
  obtain rfl : g = g' := by simp at h1; exact h1.1
  exact h2 x
/-- j numbers of row i are over -/
def LessTo (T T' : List (List Int)) (n i k : Nat) (t : Int) (j : Nat) : Prop := ∀ a b, a < n → b < n → fn T' a b = if a = i ∧ b < j then fn T i b - t * fn T k b else fn T a b
theorem LessTo.start {T : List (List Int)} {n i k : Nat} {t : Int} : LessTo T T n i k t 0 := fun a b _ _ => by rw [if_neg (by omega)]
theorem LessTo.here {T T' : List (List Int)} {n i k : Nat} {t : Int} {j : Nat} (h : LessTo T T' n i k t j) {a : Nat} (ha : a < n) (hj : j < n) : fn T' a j = fn T a j := by rw [h a j ha hj, if_neg (by omega)]
theorem LessTo.next {T T' : List (List Int)} {n i k : Nat} {t : Int} {j : Nat} (h : LessTo T T' n i k t j) (hs : Sq n T') (hi : i < n) (hj : j < n) (x : Int) (hx : x = fn T i j - t * fn T k j) : LessTo T (putE T' i j x) n i k t (j + 1) := by
  intro a b ha hb
  rw [fn_put hs hi hj]
  by_cases h1 : a = i ∧ b = j
  · obtain ⟨rfl, rfl⟩ := h1
    rw [if_pos ⟨rfl, rfl⟩, if_pos ⟨rfl, by omega⟩, hx]
  · rw [if_neg h1, h a b ha hb]
    by_cases h2 : a = i ∧ b < j
    · rw [if_pos h2, if_pos ⟨h2.1, by omega⟩]
    · rw [if_neg h2, if_neg (by omega)]
theorem LessTo.over {T T' : List (List Int)} {n i k : Nat} {t : Int} (h : LessTo T T' n i k t n) (a b : Nat) (ha : a < n) (hb : b < n) : fn T' a b = setRow (fn T) i (fun b => fn T i b - t * fn T k b) a b := by
  rw [h a b ha hb]
  unfold setRow
  by_cases h1 : a = i
  · rw [if_pos ⟨h1, hb⟩, if_pos h1]
  · rw [if_neg (fun h => h1 h.1), if_neg h1]

set_option maxHeartbeats 1000000 in
/-- row i less t times row k -/
theorem Less_any (i₀ k n B G : Nat) (t : Int) (vs : List Value) (T : List (List Int)) (w w0 : World) (hi : i₀ < n) (hk : k < n) (hn : n ≤ 1000) (hm : HMem w w0 B G n vs T)
    (h1 : ∀ b, b < n → (t * fn T k b).natAbs ≤ 200000000000000) (h2 : ∀ b, b < n → (fn T i₀ b).natAbs ≤ 100000000000000) :
    Calls Tryd.prog 36 #[.int .i64 i₀, .int .i64 k, .int .i64 t, .pointer (some ⟨w.heap.size, 0, none⟩)] w0 fun e w' => (∃ v, e = .returned v) ∧
      ∃ T', HMem w w' B G n vs T' ∧ ∀ a b, a < n → b < n → fn T' a b = setRow (fn T) i₀ (fun b => fn T i₀ b - t * fn T k b) a b := by
  have HM := Lib.hid hm
  have H1 := Lib.hid h1
  have H2 := Lib.hid h2
  have hbox := hm.box
  obtain ⟨gi, ri, fhi, fvi, ffi, fei, _⟩ := hm.at hi hi
  have HVI := Lib.hid fvi
  have hi0 : (0 : Int) ≤ i₀ := by omega
  have hi1 : (i₀ : Int) < n := by omega
  have hk0 : (0 : Int) ≤ k := by omega
  have hk1 : (k : Int) < n := by omega
  clear hm h1 h2 ffi fei fvi
  go_enter Tryd.func36, Tryd.ntmps36
  go_wp2_with fail
  go_loopg [13] (n + 1) (fun g i wr => ∃ (j : Nat) (T' : List (List Int)), j ≤ n ∧ n - j < g ∧ i = .int .i64 j ∧ HMem w wr B G n vs T' ∧ LessTo T T' n i₀ k t j)
  case atStart => exact ⟨0, T, by omega, by omega, rfl, HM.out, LessTo.start⟩
  case round =>
    obtain ⟨j, T', hj, hg, rfl, hm, hl⟩ := hrel
    have HM2 := Lib.hid hm
    have HL2 := Lib.hid hl
    have hbox2 := hm.box
    clear hm hl hbox fhi
    by_cases hlt : j < n
    · obtain ⟨g1, r1, fh1, fv1, ff1, fe1, _⟩ := HM2.out.at hi hlt
      obtain ⟨g2, r2, fh2, fv2, ff2, fe2, _⟩ := HM2.out.at hk hlt
      rw [HL2.out.here hi hlt] at fe1
      rw [HL2.out.here hk hlt] at fe2
      have hst := fun (W5 : World) (hC : Below wr.heap.size wr W5) (x : Int) => (HM2.out.call hC).store hi hlt fv1 x
      have HST := Lib.hid hst
      have m1 := H1.out j hlt
      have m2 := H2.out j hlt
      obtain ⟨x, hx⟩ : ∃ x, x = fn T i₀ j := ⟨_, rfl⟩
      obtain ⟨y, hy⟩ : ∃ y, y = fn T k j := ⟨_, rfl⟩
      rw [← hx] at fe1 m2
      rw [← hy] at fe2 m1
      obtain ⟨z, hz⟩ : ∃ z, z = t * y := ⟨_, rfl⟩
      rw [← hz] at m1
      have hw1 : IntKind.i64.wrap (t * y) = z := by rw [← hz]; exact IntWalk.i64_in _ (by omega)
      have hw2 : IntKind.i64.wrap (x - z) = x - z := IntWalk.i64_in _ (by omega)
      have hj0 : (0 : Int) ≤ j := by omega
      have hj1 : (j : Int) < n := by omega
      have z1 := World.block_lt_of_cell? _ _ hbox2
      have z2 := World.block_lt_of_cell? _ _ fh1
      have z3 := World.block_lt_of_cell? _ _ fe1
      have z4 := World.block_lt_of_cell? _ _ fe2
      dsimp only at z1 z2 z3 z4
      have HN := Lib.hid (HL2.out.next HM2.out.sq hi hlt (x - z) (by rw [hx, hz, hy]))
      clear hst hx hy hz fv1 fv2 ff2 m1 m2
      go_wp2_with fail
      go_still_tail 17, (by kernel_rfl)
      go_wp2_with fail
      go_roundg (n - j)
      case measure => omega
      case rel => exact ⟨j + 1, _, by omega, by omega, by go_num, HST.out _ Cls.start _, HN.out⟩
    · obtain rfl : j = n := by omega
      go_wp2_with fail
      go_end0
      exact ⟨⟨_, rfl⟩, T', HM2.out, fun a b ha hb => HL2.out.over a b ha hb⟩
end Go.Proofs.YtijlhdgagaehaaaDoor
