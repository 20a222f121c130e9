/- What the readings of the arguments give the walks. -/
import Derived.Test.YtkpoemfdepjkaaaDoorBase
import Derived.OpenShut
import Derived.Deep.Matrix
namespace Go.Proofs.YtkpoemfdepjkaaaDoor
open Go.RowKit Go.ChangeShapes Go.WideShapes Go.Deep
set_option linter.unusedVariables false
set_option linter.unusedSimpArgs false

theorem ints_read {w : World} {a : Addr} {cap len : Nat} {zs : List Int} (hz : zs.length = cap) (hl : len ≤ cap) (hc : ∀ c, c < cap → w.cell? (a.add c) = some (.int .i64 (zs.getD c 0))) : IntsAt w (some a) len (zs.take len) := by
  refine ⟨by simp; omega, fun i hi => ?_⟩
  obtain ⟨b, off, rfl, hcell⟩ := ints_at (a := a) (k := .i64) (zs := zs) (fun i hi => hc i (by omega)) (by omega)
  refine ⟨b, off, rfl, ?_⟩
  rw [hcell i (by omega)]
  have : (zs.take len).getD i 0 = zs.getD i 0 := by simp [List.getD, List.getElem?_take, hi]
  rw [this]

theorem open_intsAt {H : Type} {enc : TypeId × Value → H} {P : Program} {w : World} {held : Bool} {t q : TypeId} (ht : P.underlying t = some (.slice q)) (hq : P.underlying q = some (.int .i64)) (cq : P.cellsOf q = 1)
    {a : Option Addr} {len cap : Nat} {d : DataW H} {p : List MemPlace} (h : DataW.Trod enc P w 0 (fun _ => true) held t (.slice a len cap) d p) :
    ∃ xs, IntsAt w a len xs ∧ len ≤ cap ∧ (cap ≤ 9223372036854775807 ∧ (a = none → cap = 0)) := by
  obtain ⟨fuel, hf⟩ := h
  rcases open_ints ht hq cq hf with ⟨hcs, _⟩ | ⟨x, l, c, zs, hcs, _, hl, hm, hz, _, hcell, hwz⟩
  · simp [Value.cells] at hcs
    obtain ⟨rfl, rfl, rfl⟩ := hcs
    exact ⟨[], IntsAt.nil _ _, by omega, by omega, fun _ => rfl⟩
  · simp [Value.cells] at hcs
    obtain ⟨rfl, rfl, rfl⟩ := hcs
    have hz' : zs.length = cap := by simpa using hz
    unfold maxLen at hm
    exact ⟨zs.take len, ints_read hz' hl (fun c hc => hcell c (by omega)), hl, hm, fun h => by cases h⟩

theorem open_rowsAt {H : Type} {enc : TypeId × Value → H} {P : Program} {w : World} {held : Bool} {t e q : TypeId} (ht : P.underlying t = some (.slice e)) (he : P.underlying e = some (.slice q)) (hq : P.underlying q = some (.int .i64)) (ce : P.cellsOf e = 1) (cq : P.cellsOf q = 1)
    {a : Option Addr} {len cap : Nat} {d : DataW H} {p : List MemPlace} (h : DataW.Trod enc P w 0 (fun _ => true) held t (.slice a len cap) d p) :
    ∃ rows, RowsAt w a len rows ∧ len ≤ cap ∧ Small len rows := by
  obtain ⟨fuel, hf⟩ := h
  rcases open_int_rows ht he hq ce cq hf with ⟨hcs, _⟩ | ⟨x, l, c, A, L, C, Z, hcs, _, hl, hm, _, hcell⟩
  · simp [Value.cells] at hcs
    obtain ⟨rfl, rfl, rfl⟩ := hcs
    exact ⟨[], RowsAt.nil _ _, by omega, by omega, fun k hk => by omega⟩
  · simp [Value.cells] at hcs
    obtain ⟨rfl, rfl, rfl⟩ := hcs
    unfold maxLen at hm
    refine ⟨(List.range len).map fun r => (Z r).take (L r), ⟨by simp, fun i hi => ?_⟩, hl, by omega, fun k hk => ?_⟩
    · obtain ⟨h1, h2, h3, h4, h5, h6, h7⟩ := hcell i (by omega)
      have e1 : (((List.range len).map fun r => (Z r).take (L r)).getD i []) = (Z i).take (L i) := by simp [List.getD, hi]
      rw [e1]
      have e2 : ((Z i).take (L i)).length = L i := by simp; omega
      rw [e2]
      obtain ⟨xb, xo, xs⟩ := x
      have hspot : xs = none := by simpa [Addr.add] using World.cell?_spot (hcell 0 (by omega)).1
      subst hspot
      rw [Go.WideShapes.add_plain] at h1
      refine ⟨xb, xo, A i, C i, rfl, h1, h2, h3, h6, ?_⟩
      cases hA : A i with
      | none =>
        have hc0 := h6 hA
        have : L i = 0 := by omega
        rw [this]
        simpa using IntsAt.nil w none
      | some a' => exact ints_read h4 h2 (fun c hc => (h7 a' hA).2 c hc)
    · obtain ⟨h1, h2, h3, h4, h5, h6, h7⟩ := hcell k (by omega)
      have e1 : (((List.range len).map fun r => (Z r).take (L r)).getD k []) = (Z k).take (L k) := by simp [List.getD, hk]
      rw [e1]
      unfold maxLen at h3
      simp
      omega
end Go.Proofs.YtkpoemfdepjkaaaDoor
