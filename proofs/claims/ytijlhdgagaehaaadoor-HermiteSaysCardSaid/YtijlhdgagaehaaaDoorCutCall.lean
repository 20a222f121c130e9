/- Cut as it stands at a call. -/
import Derived.Test.YtijlhdgagaehaaaDoorCut
namespace Go.Proofs.YtijlhdgagaehaaaDoor
open Go.RowKit
set_option linter.unusedVariables false
set_option linter.unusedSimpArgs false

/-- Cut, its two numbers as they stand at a call -/
theorem Cut_call (a : Option Addr) (n cap : Nat) (rows : List (List Int)) (ci cj : Int) (w : World) (hr : RowsAt w a n rows) (hn : n ≤ 1000000) (hcap : n ≤ cap) (hci0 : 0 ≤ ci) (hci : ci ≤ 1000000) (hcj0 : 0 ≤ cj) (hcj : cj ≤ 1000000) (hw : ∀ k, k < n → cj.toNat < (rows.getD k []).length ∧ (rows.getD k []).length ≤ 1000000) :
    Calls Tryd.prog 34 #[.slice a n cap, .int .i64 ci, .int .i64 cj] w fun e w' => (∃ a' cap', e = .returned (.slice a' (cut rows ci.toNat cj.toNat).length cap') ∧ (cut rows ci.toNat cj.toNat).length ≤ cap' ∧ cap' ≤ maxLen ∧ RowsAt w' a' (cut rows ci.toNat cj.toNat).length (cut rows ci.toNat cj.toNat)) ∧ Below w.heap.size w w' := by
  obtain ⟨ci, rfl⟩ := Int.eq_ofNat_of_zero_le hci0
  obtain ⟨cj, rfl⟩ := Int.eq_ofNat_of_zero_le hcj0
  simp only [Int.toNat_natCast] at *
  refine (Cut_any a n cap rows ci cj w hr hn hcap (by omega) (by omega) hw).mono ?_
  rintro e w' ⟨⟨v, rfl, hv⟩, hb⟩
  obtain ⟨a', cap', rfl, h1, h2, h3⟩ := hv.rowsAt
  exact ⟨⟨a', cap', rfl, h1, h2, h3⟩, hb⟩


end Go.Proofs.YtijlhdgagaehaaaDoor
