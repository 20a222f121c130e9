/- Contracts of tree.Laplace, tree.Count; the closed fact. -/
import Derived.Test.YtabenflchnobmaaDoorTreeCheck
import Derived.Test.YtabenflchnobmaaDoorLaplace
import Derived.Test.YtabenflchnobmaaDoorDet
namespace Go.Proofs.YtabenflchnobmaaDoor
open Go.RowKit
set_option linter.unusedVariables false
set_option linter.unusedSimpArgs false

theorem TLaplace_good (n : Int) (a : Option Addr) (m cap : Nat) (ps : List (List Int)) (w : World) (hr : RowsAt w a m ps) (hs : Small m ps) (he : treeErr n ps = 0) :
    Calls Tryd.prog 9 #[.int .i64 n, .slice a m cap] w fun e w' => (∃ G, ∃ vs, e = .returned (.tuple #[.slice (some ⟨G, 0, none⟩) n.toNat n.toNat, .nilIface]) ∧ OwnRowsV w' w.heap.size (.slice (some ⟨G, 0, none⟩) n.toNat n.toNat) vs (lapOf n.toNat ps)) ∧ Below w.heap.size w w' := by
  have hC := TCheck_any n a m cap ps w hr hs
  obtain ⟨h1, h2, h3, h4⟩ := treeErr_good he
  rw [he, errV_zero] at hC
  rw [hr.1] at h3
  have HR := Lib.hid hr
  have H4 := Lib.hid h4
  clear hr hs he h4
  go_enter Tryd.func9, Tryd.ntmps9
  go_wp2_with fail
  go_at_call 6
  refine (hC).mono ?_
  rintro e w1 ⟨rfl, hb⟩
  go_wp2_with fail
  go_at_call 18
  refine (laplace_any n a m cap ps _ (HR.out.call hb) h1 h2 h3 H4.out).mono ?_
  rintro e w2 ⟨⟨G, vs, rfl, hv⟩, hb2⟩
  have HV := Lib.hid hv
  clear hv
  go_wp2_with fail
  go_ret2
  have hsz := hb.size
  exact ⟨⟨G, vs, rfl, HV.out.mono hsz⟩, below_trans hb hb2⟩
theorem TLaplace_bad (n : Int) (a : Option Addr) (m cap : Nat) (ps : List (List Int)) (w : World) (hr : RowsAt w a m ps) (hs : Small m ps) (he : treeErr n ps ≠ 0) :
    Calls Tryd.prog 9 #[.int .i64 n, .slice a m cap] w fun e w' => e = .returned (.tuple #[.slice none 0 0, .iface 38 (.int .i64 (treeErr n ps))]) ∧ Below w.heap.size w w' := by
  have hC := TCheck_any n a m cap ps w hr hs
  rw [errV_pos he] at hC
  generalize treeErr n ps = e at *
  clear hr hs he
  go_enter Tryd.func9, Tryd.ntmps9
  go_wp2_with fail
  go_at_call 6
  refine (hC).mono ?_
  rintro e w1 ⟨rfl, hb⟩
  go_wp2_with fail
  go_ret2
  exact ⟨rfl, hb⟩

theorem TCount_any (n : Int) (a : Option Addr) (m cap : Nat) (ps : List (List Int)) (w : World) (hr : RowsAt w a m ps) (hs : Small m ps) :
    Calls Tryd.prog 11 #[.int .i64 n, .slice a m cap] w fun e w' => e = .returned (.tuple #[.int .i64 (treesV n ps), errV (treeErr n ps)]) ∧ Below w.heap.size w w' := by
  have hC := TCheck_any n a m cap ps w hr hs
  by_cases he : treeErr n ps = 0
  · obtain ⟨h1, h2, h3, h4⟩ := treeErr_good he
    have hbd := trees_bd he
    have hv : treesV n ps = detN (n.toNat - 1) (cut (lapOf n.toNat ps) 0 0) := by unfold treesV; rw [if_pos he]
    have HV := Lib.hid hv
    rw [he, errV_zero] at hC ⊢
    rw [hv]
    rw [hr.1] at h3
    have HR := Lib.hid hr
    have H4 := Lib.hid h4
    have hsq := lapOf_sq n.toNat ps
    obtain ⟨k, hk⟩ : ∃ k, n.toNat = k + 1 := ⟨n.toNat - 1, by omega⟩
    rw [hk] at hsq
    have HSQ := Lib.hid hsq
    have hnk : n.toNat - 1 = k := by omega
    have hk5 : k ≤ 5 := by omega
    rw [hnk, hk] at hbd
    rw [hnk, hk]
    have HW := Lib.hid (wrap_in (show -9223372036854775808 ≤ _ by omega) (show detN k (cut (lapOf (k + 1) ps) 0 0) ≤ 9223372036854775807 by omega))
    have HK := Lib.hid hk
    clear hr hs he h4 hv hsq hk hnk hbd
    go_enter Tryd.func11, Tryd.ntmps11
    go_wp2_with fail
    go_at_call 6
    refine (hC).mono ?_
    rintro e w1 ⟨rfl, hb⟩
    go_wp2_with fail
    go_at_call 18
    refine (laplace_any n a m cap ps _ (HR.out.call hb) h1 h2 h3 H4.out).mono ?_
    rintro e w2 ⟨⟨G, vs, rfl, hv⟩, hb2⟩
    rw [HK.out] at hv ⊢
    obtain ⟨a2, cap2, e2, hc1, hc2, hra⟩ := hv.rows.rowsAt
    rw [HSQ.out.1] at e2 hc1 hra
    obtain ⟨rfl, _, rfl⟩ : a2 = some ⟨G, 0, none⟩ ∧ k + 1 = k + 1 ∧ cap2 = k + 1 := by simp only [Value.slice.injEq] at e2; exact ⟨e2.1.symm, rfl, e2.2.2.symm⟩
    have HRA := Lib.hid hra
    clear hv hra e2
    go_wp2_with fail
    go_at_call 21
    refine (Cut_call _ (k + 1) _ _ 0 0 _ HRA.out (by omega) (by omega) (by omega) (by omega) (by omega) (by omega) (by intro i hi; rw [HSQ.out.2 i hi]; exact ⟨Nat.succ_pos k, by omega⟩)).mono ?_
    rintro e w3 ⟨⟨a3, cap3, rfl, hc3, hc4, hra3⟩, hb3⟩
    simp only [show (0 : Int).toNat = 0 from rfl] at hc3 hra3 ⊢
    have hsq3 := HSQ.out.cut (show 0 < k + 1 by omega) (show 0 < k + 1 by omega)
    rw [hsq3.1] at hc3 hra3 ⊢
    have HR3 := Lib.hid hra3
    have HS3 := Lib.hid hsq3
    clear hra3 hsq3
    go_wp2_with fail
    go_at_call 20
    refine (Det_any k _ _ _ _ (by omega) hc3 HS3.out HR3.out).mono ?_
    rintro e w4 ⟨rfl, hb4⟩
    rw [HW.out]
    go_wp2_with fail
    go_ret2
    exact ⟨rfl, below_trans (below_trans (below_trans hb hb2) hb3) hb4⟩
  · have hv : treesV n ps = 0 := by unfold treesV; rw [if_neg he]
    rw [hv]
    rw [errV_pos he] at hC ⊢
    generalize treeErr n ps = e at *
    clear hr hs he hv
    go_enter Tryd.func11, Tryd.ntmps11
    go_wp2_with fail
    go_at_call 6
    refine (hC).mono ?_
    rintro e w1 ⟨rfl, hb⟩
    go_wp2_with fail
    go_ret2
    exact ⟨rfl, hb⟩
end Go.Proofs.YtabenflchnobmaaDoor
