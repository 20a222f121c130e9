/- The reference's Sum says whether a row is a sum. -/
import Derived.Test.YtijlhdgagaehaaaDoorHSum
import Derived.Test.YtijlhdgagaehaaaDoorCramer
import Derived.Test.YtijlhdgagaehaaaDoorHerHas
namespace Go.Proofs.YtijlhdgagaehaaaDoor
open Go.RowKit
set_option linter.unusedVariables false
set_option linter.unusedSimpArgs false

theorem bnd100 {n : Nat} (h : n ≤ 3) : bnd 100 n ≤ 6000000 ∧ 0 ≤ bnd 100 n := by
  match n, h with
  | 0, _ => decide
  | 1, _ => decide
  | 2, _ => decide
  | 3, _ => decide
theorem set_bd {n : Nat} {rows : List (List Int)} {x : List Int} (hn : n ≤ 3) (hk : ∀ a b, (fn rows a b).natAbs ≤ 20) (hl : rows.length = n) (hx : ∀ j, (x.getD j 0).natAbs ≤ 100) (i : Nat) (hi : i < n) :
    -6000000 ≤ detN n (rows.set i x) ∧ detN n (rows.set i x) ≤ 6000000 := by
  have he : Ent 100 (rows.set i x) := by
    intro a b
    have h := congrFun (congrFun (fn_set rows i x (by omega)) a) b
    have h' : ((rows.set i x).getD a []).getD b 0 = if a = i then x.getD b 0 else fn rows a b := h
    rw [h']
    have h1 := hx b
    have h2 := hk a b
    split <;> omega
  have h1 := detN_bd n he
  have h2 := bnd100 hn
  omega
theorem sum_has {n : Nat} {rows : List (List Int)} {x : List Int} (hk : HerOk n rows) : sumOk n (G (-1) n (fn rows)) (fun i => G (-1) n (setRow (fn rows) i (fnL x))) = hasB n (fn rows) (fnL x) := by
  by_cases h : Lat n (fn rows) (fnL x)
  · rw [hasB_true h, sumOk_iff]
    exact (cramer_iff hk.pos hk.le _ _ hk.det).1 h
  · rw [hasB_false h]
    rw [Bool.eq_false_iff]
    intro h2
    exact h ((cramer_iff hk.pos hk.le _ _ hk.det).2 (sumOk_iff.1 h2))
theorem HSum_has (n : Nat) (a : Option Addr) (cap : Nat) (rows : List (List Int)) (ax : Option Addr) (capx : Nat) (x : List Int) (w : World) (hr : RowsAt w a n rows) (hx : IntsAt w ax n x) (hcap : n ≤ cap) (hcx : n ≤ capx) (hcm : capx ≤ maxLen) (hcn : ax = none → capx = 0) (hk : HerOk n rows) (hb : ∀ j, (x.getD j 0).natAbs ≤ 100) :
    Calls Tryd.prog 10 #[.slice a n cap, .slice ax n capx] w fun e w' => e = .returned (.bool (hasB n (fn rows) (fnL x))) ∧ Below w.heap.size w w' := by
  rw [← sum_has hk]
  have h1 := hk.bd
  have h2 := hk.le
  have hset : ∀ i, i < n → wrap64 (detN n (rows.set i x)) = G (-1) n (setRow (fn rows) i (fnL x)) ∧ (-1000000000000 ≤ G (-1) n (setRow (fn rows) i (fnL x)) ∧ G (-1) n (setRow (fn rows) i (fnL x)) ≤ 1000000000000) := by
    intro i hi
    have h3 := set_bd hk.le hk.ent hk.len hb i hi
    have h4 : detN n (rows.set i x) = G (-1) n (setRow (fn rows) i (fnL x)) := by
      rw [detN_G, fn_set rows i x (by rw [hk.len]; exact hi)]
      rfl
    rw [← h4]
    exact ⟨wrap_in (by omega) (by omega), by omega⟩
  exact HSum_any n hk.pos (by omega) a cap rows ax capx x w hr hx hcap hcx hcm hcn hk.sq _ (by rw [detN_G]; exact wrap_in (by omega) (by omega)) hk.det (by omega) _ (fun i hi => (hset i hi).1) (fun i hi => (hset i hi).2)
end Go.Proofs.YtijlhdgagaehaaaDoor
