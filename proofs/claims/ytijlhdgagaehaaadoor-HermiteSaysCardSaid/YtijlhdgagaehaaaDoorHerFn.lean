/- Contracts of package hermite: Check, Form. -/
import Derived.Test.YtijlhdgagaehaaaDoorHerForm
import Derived.Test.YtijlhdgagaehaaaDoorHerCheck
import Derived.Test.YtijlhdgagaehaaaDoorGrounds
import Derived.Test.YtijlhdgagaehaaaDoorDet
import Derived.Test.YtijlhdgagaehaaaDoorBnd
namespace Go.Proofs.YtijlhdgagaehaaaDoor
open Go.RowKit
set_option linter.unusedVariables false
set_option linter.unusedSimpArgs false

/-- what a form is, in memory -/
def FormAt (w0 w : World) (n : Nat) (rows : List (List Int)) (v : Value) (T : List (List Int)) : Prop := ∃ G' vs, v = .slice (some ⟨G', 0, none⟩) n n ∧ OwnRowsV w (w0.heap.size + 1) (.slice (some ⟨G', 0, none⟩) n n) vs T ∧ Sq n T ∧ FormOf n (fn rows) (fn T)
theorem FormAt.read {w0 w : World} {n : Nat} {rows T : List (List Int)} {v : Value} (h : FormAt w0 w n rows v T) : ∃ G', v = .slice (some ⟨G', 0, none⟩) n n ∧ RowsAt w (some ⟨G', 0, none⟩) n T := by
  obtain ⟨G', vs, rfl, h1, h2, h3⟩ := h
  have := h1.read
  rw [h2.1] at this
  exact ⟨G', rfl, this⟩
theorem FormFn_good (a : Option Addr) (n cap : Nat) (rows : List (List Int)) (w : World) (hr : RowsAt w a n rows) (hcap : n ≤ cap) (hs : Small n rows) (he : herErr rows = 0) :
    Calls Tryd.prog 8 #[.slice a n cap] w fun e w' => (∃ G' T, e = .returned (.tuple #[.slice (some ⟨G', 0, none⟩) n n, .nilIface]) ∧ RowsAt w' (some ⟨G', 0, none⟩) n T ∧ Sq n T ∧ FormOf n (fn rows) (fn T)) ∧ Below w.heap.size w w' := by
  have hC := HCheck_any a n cap rows w hr hcap hs
  obtain ⟨k1, k2, k3, k4, k5, k6, k7⟩ := herErr_good hr.1 he
  have hF := fun W (h : RowsAt W a n rows) => Form_of n a cap rows W k2 k3 hcap k4 (fun a b _ _ => k5 a b) k6 h
  rw [he, errV_zero] at hC
  have HR := Lib.hid hr
  clear hr hs he k1 k2 k3 k4 k5 k6 k7
  go_enter Tryd.func8, Tryd.ntmps8
  go_wp2_with fail
  go_at_call 6
  refine (hC).mono ?_
  rintro e w1 ⟨rfl, hb⟩
  go_wp2_with fail
  go_at_call 22
  refine (hF _ (HR.out.call hb)).mono ?_
  rintro e w2 ⟨⟨G', vs, T, rfl, h1, h2, h3⟩, hb2⟩
  have hra := h1.read
  rw [h2.1] at hra
  have HX := Lib.hid (show RowsAt w2 (some ⟨G', 0, none⟩) n T ∧ Sq n T ∧ FormOf n (fn rows) (fn T) from ⟨hra, h2, h3⟩)
  clear h1 h2 h3 hra
  go_wp2_with fail
  go_ret2
  exact ⟨⟨G', T, rfl, HX.out⟩, below_trans hb hb2⟩
theorem FormFn_bad (a : Option Addr) (n cap : Nat) (rows : List (List Int)) (w : World) (hr : RowsAt w a n rows) (hcap : n ≤ cap) (hs : Small n rows) (he : herErr rows ≠ 0) :
    Calls Tryd.prog 8 #[.slice a n cap] w fun e w' => e = .returned (.tuple #[.slice none 0 0, errV (herErr rows)]) ∧ Below w.heap.size w w' := by
  have hC := HCheck_any a n cap rows w hr hcap hs
  rw [errV_pos he] at hC ⊢
  generalize herErr rows = e at *
  clear hr hs he
  go_enter Tryd.func8, Tryd.ntmps8
  go_wp2_with fail
  go_at_call 6
  refine (hC).mono ?_
  rintro e w1 ⟨rfl, hb⟩
  go_wp2_with fail
  go_ret2
  exact ⟨rfl, hb⟩
end Go.Proofs.YtijlhdgagaehaaaDoor
