/- Memory of the fraction-free elimination: a matrix of the call's own, its box, and the box of the last pivot. -/
import Derived.Test.YtkpoemfdepjkaaaGreatDoorBase
namespace Go.Proofs.YtkpoemfdepjkaaaGreatDoor
open Go.RowKit
set_option linter.unusedVariables false
set_option linter.unusedSimpArgs false

def swapVs (vs : List Value) (i j : Nat) : List Value := (vs.set i (vs.getD j undef)).set j (vs.getD i undef)
theorem swapVs_getD {vs : List Value} {i j : Nat} (hi : i < vs.length) (hj : j < vs.length) (a : Nat) : (swapVs vs i j).getD a undef = vs.getD (sw i j a) undef := by
  unfold swapVs sw
  by_cases h1 : j = a
  · subst h1
    rw [getD_set_eq _ _ _ _ (by rw [List.length_set]; exact hj)]
    by_cases h2 : j = i
    · rw [if_pos h2, h2]
    · rw [if_neg h2, if_pos rfl]
  · rw [getD_set_ne _ _ _ _ _ h1]
    by_cases h2 : i = a
    · subst h2
      rw [getD_set_eq _ _ _ _ hi, if_pos rfl]
    · rw [getD_set_ne _ _ _ _ _ h2, if_neg (fun h => h2 h.symm), if_neg (fun h => h1 h.symm)]
theorem swapL_getD {A : List (List Int)} {i j : Nat} (hi : i < A.length) (hj : j < A.length) (a : Nat) : (swapL A i j).getD a [] = A.getD (sw i j a) [] := by
  unfold swapL sw
  by_cases h1 : j = a
  · subst h1
    rw [getD_set_eq _ _ _ _ (by rw [List.length_set]; exact hj)]
    by_cases h2 : j = i
    · rw [if_pos h2, h2]
    · rw [if_neg h2, if_pos rfl]
  · rw [getD_set_ne _ _ _ _ _ h1]
    by_cases h2 : i = a
    · subst h2
      rw [getD_set_eq _ _ _ _ hi, if_pos rfl]
    · rw [getD_set_ne _ _ _ _ _ h2, if_neg (fun h => h2 h.symm), if_neg (fun h => h1 h.symm)]
theorem sw_ne {i j a b : Nat} (h : a ≠ b) : sw i j a ≠ sw i j b := by
  intro he
  unfold sw at he
  by_cases h1 : a = i
  · rw [if_pos h1] at he
    by_cases h3 : b = i
    · omega
    · rw [if_neg h3] at he
      by_cases h4 : b = j
      · rw [if_pos h4] at he; omega
      · rw [if_neg h4] at he; omega
  · rw [if_neg h1] at he
    by_cases h2 : a = j
    · rw [if_pos h2] at he
      by_cases h3 : b = i
      · rw [if_pos h3] at he; omega
      · rw [if_neg h3] at he
        by_cases h4 : b = j
        · omega
        · rw [if_neg h4] at he; omega
    · rw [if_neg h2] at he
      by_cases h3 : b = i
      · rw [if_pos h3] at he; omega
      · rw [if_neg h3] at he
        by_cases h4 : b = j
        · rw [if_pos h4] at he; omega
        · rw [if_neg h4] at he; omega

/-- two rows of the call's own exchanged: row i's header first -/
theorem OwnRowsV.swap {w : World} {B G n cap : Nat} {vs : List Value} {A : List (List Int)} (h : OwnRowsV w B (.slice (some ⟨G, 0, none⟩) n cap) vs A) {i j : Nat} (hi : i < A.length) (hj : j < A.length) :
    OwnRowsV ((w.setCell ⟨G, i, none⟩ (vs.getD j undef)).setCell ⟨G, j, none⟩ (vs.getD i undef)) B (.slice (some ⟨G, 0, none⟩) n cap) (swapVs vs i j) (swapL A i j) := by
  obtain ⟨hV, hl, hr, hd⟩ := h
  have hn : n = vs.length := by
    rcases hV.2 with ⟨h1, _⟩ | ⟨g, cap', cur, h1, _⟩
    · simp at h1
    · simp at h1; exact h1.2.1
  subst hn
  have st := World.ownsRow.stored hV i (vs.getD j undef)
  have st2 := World.ownsRow.stored st.1 j (vs.getD i undef)
  have hi' : i < vs.length := by rw [hl]; exact hi
  have hj' : j < vs.length := by rw [hl]; exact hj
  have hlen : (swapVs vs i j).length = vs.length := by simp [swapVs]
  have hlen2 : (swapL A i j).length = A.length := by simp [swapL]
  refine ⟨?_, by rw [hlen, hlen2, hl], fun a ha => ?_, fun a b ha hb hab => ?_⟩
  · unfold OwnVals
    rw [hlen]
    exact st2.1
  · rw [hlen2] at ha
    rw [swapVs_getD hi' hj', swapL_getD hi hj]
    have hs : sw i j a < A.length := sw_lt hi hj ha
    have hne := own_ne (hr _ hs) hV
    exact ((hr _ hs).kept st.2 hne).kept st2.2 hne
  · rw [hlen2] at ha hb
    rw [swapVs_getD hi' hj', swapVs_getD hi' hj']
    exact hd _ _ (sw_lt hi hj ha) (sw_lt hi hj hb) (sw_ne hab)

/-- the state of memory -/
structure BMem (w wr : World) (B Bl G n : Nat) (vs : List Value) (T : List (List Int)) (L : Int) : Prop where
  own : OwnRowsV wr B (.slice (some ⟨G, 0, none⟩) n n) vs T
  bd : RowsBelow Bl (.slice (some ⟨G, 0, none⟩) n n) vs
  box : wr.cell? ⟨w.heap.size, 0, none⟩ = some (.slice (some ⟨G, 0, none⟩) n n)
  last : wr.cell? ⟨Bl, 0, none⟩ = some (.int .i64 L)
  free : wr.frozen? ⟨Bl, 0, none⟩ = false
  bel : Below w.heap.size w wr
  hB : w.heap.size < B
  hBl : B ≤ Bl
  sq : Sq n T

theorem BMem.call {w wr w2 : World} {B Bl G n : Nat} {vs : List Value} {T : List (List Int)} {L : Int} (h : BMem w wr B Bl G n vs T L) (hb : Below wr.heap.size wr w2) : BMem w w2 B Bl G n vs T L :=
  ⟨h.own.call hb, h.bd, by rw [hb.cell (p := ⟨w.heap.size, 0, none⟩) (World.block_lt_of_cell? _ _ h.box)]; exact h.box, by rw [hb.cell (p := ⟨Bl, 0, none⟩) (World.block_lt_of_cell? _ _ h.last)]; exact h.last,
    by rw [hb.frozen (p := ⟨Bl, 0, none⟩) (World.block_lt_of_cell? _ _ h.last)]; exact h.free, h.bel.trans (hb.mono h.bel.size), h.hB, h.hBl, h.sq⟩

theorem BMem.at {w wr : World} {B Bl G n : Nat} {vs : List Value} {T : List (List Int)} {L : Int} (h : BMem w wr B Bl G n vs T L) {i j : Nat} (hi : i < n) (hj : j < n) :
    ∃ g rc, wr.cell? ⟨G, i, none⟩ = some (.slice (some ⟨g, 0, none⟩) n rc) ∧ vs.getD i undef = .slice (some ⟨g, 0, none⟩) n rc ∧ wr.frozen? ⟨g, j, none⟩ = false ∧ wr.cell? ⟨g, j, none⟩ = some (.int .i64 (fn T i j)) ∧
      ∀ x, BMem w (wr.setCell ⟨g, j, none⟩ (.int .i64 x)) B Bl G n vs (putE T i j x) L := by
  obtain ⟨g, rc, h1, h2, h3, h4, h5, h6, h7, h8⟩ := h.own.at h.sq hi hj
  have hgl : g < Bl := h.bd.2 i g (by rw [h5]; rfl)
  have hB := h.hB
  refine ⟨g, rc, h1, h5, h6, h7, fun x => ⟨h8 x, h.bd, ?_, ?_, by rw [World.frozen?_setCell]; exact h.free, h.bel.setCell (p := ⟨g, j, none⟩) (by show w.heap.size ≤ g; omega) _, h.hB, h.hBl, put_sq h.sq _ _ _⟩⟩
  · exact (grown_setCell wr g j _).cell h.box (by intro he; have he := Option.some.inj he; dsimp only at he; omega)
  · exact (grown_setCell wr g j _).cell h.last (by intro he; have he := Option.some.inj he; dsimp only at he; omega)
theorem BMem.base {w wr : World} {B Bl G n : Nat} {vs : List Value} {T : List (List Int)} {L : Int} (h : BMem w wr B Bl G n vs T L) : B ≤ G ∧ G < Bl := ⟨h.own.base.1, h.bd.1 G rfl⟩
theorem BMem.swap {w wr : World} {B Bl G n : Nat} {vs : List Value} {T : List (List Int)} {L : Int} (h : BMem w wr B Bl G n vs T L) {i j : Nat} (hi : i < n) (hj : j < n) :
    BMem w ((wr.setCell ⟨G, i, none⟩ (vs.getD j undef)).setCell ⟨G, j, none⟩ (vs.getD i undef)) B Bl G n (swapVs vs i j) (swapL T i j) L := by
  have hl := h.sq.1
  have hvl : vs.length = n := by rw [h.own.2.1, hl]
  obtain ⟨hG1, hG2⟩ := h.base
  have hB := h.hB
  refine ⟨h.own.swap (by omega) (by omega), ⟨h.bd.1, fun a k hk => ?_⟩, ?_, ?_, by rw [World.frozen?_setCell, World.frozen?_setCell]; exact h.free, ?_, h.hB, h.hBl, sq_swap h.sq hi hj⟩
  · rw [swapVs_getD (by omega) (by omega)] at hk
    exact h.bd.2 _ k hk
  · exact (grown_setCell _ G j _).cell ((grown_setCell wr G i _).cell h.box (by intro he; have he := Option.some.inj he; dsimp only at he; omega)) (by intro he; have he := Option.some.inj he; dsimp only at he; omega)
  · exact (grown_setCell _ G j _).cell ((grown_setCell wr G i _).cell h.last (by intro he; have he := Option.some.inj he; dsimp only at he; omega)) (by intro he; have he := Option.some.inj he; dsimp only at he; omega)
  · exact (h.bel.setCell (p := ⟨G, i, none⟩) (by show w.heap.size ≤ G; omega) _).setCell (p := ⟨G, j, none⟩) (by show w.heap.size ≤ G; omega) _
theorem BMem.setLast {w wr : World} {B Bl G n : Nat} {vs : List Value} {T : List (List Int)} {L : Int} (h : BMem w wr B Bl G n vs T L) (x : Int) : BMem w (wr.setCell ⟨Bl, 0, none⟩ (.int .i64 x)) B Bl G n vs T x := by
  have hB := h.hB
  have hBl := h.hBl
  refine ⟨h.own.storeHigh h.bd (Nat.le_refl _) 0 _, h.bd, ?_, World.cell?_setCell_same' _ _ _ (by rw [h.last]; rfl), by rw [World.frozen?_setCell]; exact h.free, h.bel.setCell (p := ⟨Bl, 0, none⟩) (by show w.heap.size ≤ Bl; omega) _, h.hB, h.hBl, h.sq⟩
  exact (grown_setCell wr Bl 0 _).cell h.box (by intro he; have he := Option.some.inj he; dsimp only at he; omega)
theorem BMem.store {w wr : World} {B Bl G n : Nat} {vs : List Value} {T : List (List Int)} {L : Int} (h : BMem w wr B Bl G n vs T L) {i j g rc : Nat} (hi : i < n) (hj : j < n) (hg : vs.getD i undef = .slice (some ⟨g, 0, none⟩) n rc) (x : Int) :
    BMem w (wr.setCell ⟨g, j, none⟩ (.int .i64 x)) B Bl G n vs (putE T i j x) L := by
  obtain ⟨g', rc', _, h1, _, _, h2⟩ := h.at hi hj
  rw [hg] at h1
  obtain rfl : g = g' := by simp at h1; exact h1.1
  exact h2 x
/-- a row's header -/
theorem BMem.head {w wr : World} {B Bl G n : Nat} {vs : List Value} {T : List (List Int)} {L : Int} (h : BMem w wr B Bl G n vs T L) {i : Nat} (hi : i < n) : wr.cell? ⟨G, i, none⟩ = some (vs.getD i undef) ∧ wr.frozen? ⟨G, i, none⟩ = false :=
  ⟨h.own.isCell (by rw [h.sq.1]; exact hi), h.own.free i⟩
end Go.Proofs.YtkpoemfdepjkaaaGreatDoor
