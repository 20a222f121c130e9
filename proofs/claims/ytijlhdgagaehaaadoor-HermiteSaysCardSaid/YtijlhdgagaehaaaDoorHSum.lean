/- Contract of the reference's Sum. -/
import Derived.Test.YtijlhdgagaehaaaDoorRDet
import Derived.Test.YtijlhdgagaehaaaDoorRCopy
import Derived.Test.YtijlhdgagaehaaaDoorMix
import Derived.Deep.LoopGhost
namespace Go.Proofs.YtijlhdgagaehaaaDoor
open Go.RowKit
set_option linter.unusedVariables false
set_option linter.unusedSimpArgs false

/-- all E i are so many times D -/
def sumOk (n : Nat) (D : Int) (E : Nat → Int) : Bool := (List.range n).all fun i => (E i).tmod D == 0
theorem sumOk_iff {n : Nat} {D : Int} {E : Nat → Int} : sumOk n D E = true ↔ ∀ i, i < n → (E i).tmod D = 0 := by
  unfold sumOk
  rw [List.all_eq_true]
  exact ⟨fun h i hi => by simpa using h i (List.mem_range.2 hi), fun h i hi => by simpa using h i (List.mem_range.1 hi)⟩
theorem set_sq {n : Nat} {rows : List (List Int)} {x : List Int} (h : Sq n rows) (hx : x.length = n) (i : Nat) : Sq n (rows.set i x) := by
  refine ⟨by rw [List.length_set]; exact h.1, fun k hk => ?_⟩
  by_cases e : i = k
  · subst e; rw [getD_set_eq _ _ _ _ (by rw [h.1]; exact hk)]; exact hx
  · rw [getD_set_ne _ _ _ _ _ e]; exact h.2 k hk

set_option maxHeartbeats 1000000 in
theorem HSum_any (n : Nat) (h0 : 0 < n) (hn : n ≤ 1000) (a : Option Addr) (cap : Nat) (rows : List (List Int)) (ax : Option Addr) (capx : Nat) (x : List Int) (w : World) (hr : RowsAt w a n rows) (hx : IntsAt w ax n x) (hcap : n ≤ cap) (hcx : n ≤ capx) (hcm : capx ≤ maxLen) (hcn : ax = none → capx = 0) (hsq : Sq n rows)
    (D : Int) (hD : wrap64 (detN n rows) = D) (hD0 : D ≠ 0) (hDb : -1000000000000 ≤ D ∧ D ≤ 1000000000000) (E : Nat → Int) (hE : ∀ i, i < n → wrap64 (detN n (rows.set i x)) = E i) (hEb : ∀ i, i < n → -1000000000000 ≤ E i ∧ E i ≤ 1000000000000) :
    Calls Tryd.prog 10 #[.slice a n cap, .slice ax n capx] w fun e w' => e = .returned (.bool (sumOk n D E)) ∧ Below w.heap.size w w' := by
  have c1 := fun W (h : RowsAt W a n rows) => RDet_any n a cap rows W hn hcap hsq h
  rw [hD] at c1
  have c2 := fun W (h : RowsAt W a n rows) => RCopy_any a n cap rows W h hn hcap (fun k hk => by rw [hsq.2 k hk]; omega)
  have c3 := fun i (hi : i < n) (g : Option Addr) (c : Nat) W (hc : n ≤ c) (h : RowsAt W g n (rows.set i x)) => RDet_any n g c (rows.set i x) W hn hc (set_sq hsq hx.1 i) h
  have HR := Lib.hid hr
  have HX := Lib.hid hx
  have C2 := Lib.hid c2
  have C3 := Lib.hid c3
  have HE := Lib.hid hE
  have HEB := Lib.hid hEb
  have HSQ := Lib.hid hsq
  have HCN := Lib.hid hcn
  have hDb0 : (D == 0) = false := by simpa using hD0
  obtain ⟨hDa, hDc⟩ := hDb
  clear hr hx hsq hD hE hEb c2 c3 hcn
  go_enter Tryd.func10, Tryd.ntmps10
  go_wp2_with fail
  go_at_call 15
  refine (c1 _ HR.out).mono ?_
  rintro e w1 ⟨rfl, hb1⟩
  go_wp2_with fail
  go_loopg [6] (n + 1) (fun g i wr => ∃ k : Nat, k ≤ n ∧ n - k < g ∧ i = .int .i64 k ∧ (∀ i, i < k → (E i).tmod D = 0) ∧ Below w.heap.size w wr)
  case atStart => exact ⟨0, by omega, by omega, rfl, fun i hi => by omega, hb1⟩
  case round =>
    obtain ⟨k, hk, hg, rfl, hpre, hbel⟩ := hrel
    have HP := Lib.hid hpre
    clear hpre hb1
    by_cases hlt : k < n
    · have hki : (k : Int) < n := by omega
      go_wp2_with fail
      go_at_call 19
      refine (C2.out _ (HR.out.call hbel)).mono ?_
      rintro e w2 ⟨⟨v, rfl, hown⟩, hb2⟩
      obtain ⟨Gk, ck, vs, rfl, hmix⟩ := hown.mix (by rw [HSQ.out.1]; omega)
      rw [HSQ.out.1]
      have hGb := hmix.base
      have hcell := hmix.cell (k := k) (by rw [HSQ.out.1]; exact hlt)
      have hfree := hmix.free k
      have hxw := (HX.out.call hbel).call hb2
      have hrd : ReadV w2 Gk (.slice ax n capx) x := by
        obtain ⟨b, off, hab, hbb, hcs⟩ := (HX.out.call hbel).some h0
        refine ⟨ax, capx, by rw [HX.out.1], by rw [HX.out.1]; exact hcx, hcm, HCN.out, by rw [HX.out.1]; exact hxw, fun _ y hy => ?_⟩
        rw [hab] at hy
        cases hy
        have := hGb.1
        dsimp only
        omega
      have hput := hmix.put (k := k) (by rw [HSQ.out.1]; exact hlt) hrd
      have hck : n ≤ ck := by have := hmix.cap_le; rw [HSQ.out.1] at this; exact this
      have hra := hput.rowsAt
      rw [List.length_set, HSQ.out.1] at hra
      have hb3 : Below w.heap.size w (w2.setCell ⟨Gk, k, none⟩ (.slice ax n capx)) := (below_trans hbel hb2).setCell (p := ⟨Gk, k, none⟩) (by have := hGb.1; have := hbel.size; show w.heap.size ≤ Gk; omega) _
      have HRA := Lib.hid hra
      have HB3 := Lib.hid hb3
      have h3 := C3.out k hlt _ ck _ hck hra
      rw [HE.out k hlt] at h3
      have heb := HEB.out k hlt
      obtain ⟨e1, e2⟩ := heb
      obtain ⟨Ek, hEk⟩ : ∃ y, y = E k := ⟨_, rfl⟩
      rw [← hEk] at h3 e1 e2
      have H3 := Lib.hid h3
      have HEK := Lib.hid hEk
      clear hown hmix hxw hrd hput hra hb3 h3 hEk hbel hb2 hGb
      by_cases hz : Ek.tmod D = 0
      · have hzb : (Ek.tmod D != 0) = false := by simp [hz]
        have HZ := Lib.hid hz
        clear hz
        go_wp2_with (go_at_call 15; refine H3.out.mono ?_; rintro e w4 ⟨rfl, hb4⟩)
        have hb5 := below_trans HB3.out hb4
        go_roundg (n - k)
        case measure => omega
        case rel => exact ⟨k + 1, by omega, by omega, by go_num, fun i hi => by
          by_cases h : i < k
          · exact HP.out i h
          · obtain rfl : i = k := by omega
            rw [← HEK.out]; exact HZ.out, hb5⟩
      · have hzb : (Ek.tmod D != 0) = true := by simp [hz]
        have hv : sumOk n D E = false := by
          rw [Bool.eq_false_iff]
          intro h
          exact hz (by rw [HEK.out]; exact sumOk_iff.1 h k hlt)
        have HV := Lib.hid hv
        clear hz hv
        go_wp2_with (go_at_call 15; refine H3.out.mono ?_; rintro e w4 ⟨rfl, hb4⟩)
        have hb5 := below_trans HB3.out hb4
        go_ret
        exact ⟨ret_bool HV.out.symm, hb5⟩
    · obtain rfl : k = n := by omega
      have HV := Lib.hid (show sumOk k D E = true from sumOk_iff.2 HP.out)
      go_wp2_with fail
      go_ret
      exact ⟨ret_bool HV.out.symm, hbel⟩
end Go.Proofs.YtijlhdgagaehaaaDoor
