/- Contract of the reference's Sign. -/
import Derived.Test.YtkcgcedldjcfjaaDoorRHas
import Derived.Test.YtkcgcedldjcfjaaDoorHPfMath
import Derived.Deep.LoopGhost
import Derived.BigQuiet
namespace Go.Proofs.YtkcgcedldjcfjaaDoor
open Go.RowKit
set_option linter.unusedVariables false
set_option linter.unusedSimpArgs false

theorem all_yet {l : List Int} {i : Nat} (h : ∀ q : Nat, q < i → (q : Int) ∈ l) (hi : (i : Int) ∈ l) : ∀ q : Nat, q < i + 1 → (q : Int) ∈ l := by
  intro q hq
  by_cases he : q = i
  · rw [he]; exact hi
  · exact h q (by omega)
theorem sign_all {l : List Int} (h : ∀ q : Nat, q < l.length → (q : Int) ∈ l) : signV l = sgI l l.length := by
  unfold signV
  rw [if_pos]
  exact List.all_eq_true.2 fun q hq => by simpa using h q (List.mem_range.1 hq)
theorem sign_none {l : List Int} {i : Nat} (hi : i < l.length) (h : ¬ (i : Int) ∈ l) : signV l = 0 := by
  unfold signV
  rw [if_neg]
  intro ha
  have := List.all_eq_true.1 ha i (List.mem_range.2 hi)
  exact h (by simpa using this)
theorem flip_yes {l : List Int} {i k : Nat} {s : Int} (h : l.getD i 0 < l.getD k 0) : flipK l i (k + 1) s = -(flipK l i k s) := by rw [flipK, if_pos h]
theorem flip_no {l : List Int} {i k : Nat} {s : Int} (h : ¬ l.getD i 0 < l.getD k 0) : flipK l i (k + 1) s = flipK l i k s := by rw [flipK, if_neg h]

set_option maxRecDepth 100000 in
set_option maxHeartbeats 1000000 in
theorem RSign_any (a : Option Addr) (n cap : Nat) (l : List Int) (w : World) (hx : IntsAt w a n l) (hn : n ≤ 1000) :
    Calls Tryd.prog 15 #[.slice a n cap] w fun e w' => e = .returned (.int .i64 (signV l)) ∧ Below w.heap.size w w' := by
  have hlen := hx.1
  have HX := Lib.hid hx
  have HL := Lib.hid hlen
  clear hx hlen
  go_enter Tryd.func15, Tryd.ntmps15
  go_wp2
  go_loopg [3, 4] (n + 1) (fun g s i wr => ∃ k : Nat, k ≤ n ∧ n - k < g ∧ s = .int .i64 (sgI l k) ∧ i = .int .i64 k ∧ (∀ q : Nat, q < k → (q : Int) ∈ l) ∧ Below w.heap.size w wr)
  case atStart => exact ⟨0, by omega, by omega, rfl, rfl, fun q hq => by omega, Below.refl _ _⟩
  case round =>
    obtain ⟨k, hk, hg, rfl, rfl, h0, hbel⟩ := hrel
    have H0 := Lib.hid h0
    clear h0
    by_cases hlt : k < n
    · obtain ⟨b, off, rfl, hbb, hcell⟩ := (HX.out).some (show 0 < n by omega)
      have HCE := Lib.hid hcell
      have hki : (k : Int) < n := by omega
      have hr := RHas_any (some ⟨b, off, none⟩) n cap l (k : Int) wr (HX.out.call hbel) hn
      clear hcell
      by_cases hin : (k : Int) ∈ l
      · rw [show decide ((k : Int) ∈ l) = true by simpa using hin] at hr
        have HR := Lib.hid hr
        have HI := Lib.hid hin
        clear hin hr
        go_wp2_with (go_at_call 16; refine HR.out.mono ?_; rintro e w' ⟨rfl, rfl⟩)
        go_loopg [3, 5] (k + 1) (fun g s i wn => ∃ p : Nat, p ≤ k ∧ k - p < g ∧ s = .int .i64 (flipK l k p (sgI l k)) ∧ i = .int .i64 p ∧ Below w.heap.size w wn)
        case atStart => exact ⟨0, by omega, by omega, rfl, rfl, hbel⟩
        case round =>
          obtain ⟨p, hp, hg, rfl, rfl, hbel⟩ := hrel
          by_cases hpk : p < k
          · have hpi : (p : Int) < k := by omega
            have hpn : (p : Int) < n := by omega
            have hc1 : wr.cell? ⟨b, off + k, none⟩ = some (.int .i64 (l.getD k 0)) := by rw [hbel.cell (p := ⟨b, off + k, none⟩) hbb]; exact HCE.out k hlt
            have hc2 : wr.cell? ⟨b, off + p, none⟩ = some (.int .i64 (l.getD p 0)) := by rw [hbel.cell (p := ⟨b, off + p, none⟩) hbb]; exact HCE.out p (by omega)
            have hbw : b < wr.heap.size := World.block_lt_of_cell? _ _ hc1
            have hp0 : (0 : Int) ≤ p := by omega
            have hk0 : (0 : Int) ≤ k := by omega
            have HBE := Lib.hid hbel
            clear hbel
            have hpm := flipK_pm l k p (sgI l k) (sgI_pm l k)
            obtain ⟨s, hs⟩ : ∃ s, s = flipK l k p (sgI l k) := ⟨_, rfl⟩
            obtain ⟨x, hx⟩ : ∃ x, x = l.getD k 0 := ⟨_, rfl⟩
            obtain ⟨y, hy⟩ : ∃ y, y = l.getD p 0 := ⟨_, rfl⟩
            rw [← hs] at hpm ⊢
            rw [← hx] at hc1
            rw [← hy] at hc2
            have hwn : IntKind.i64.wrap (-s) = -s := IntWalk.i64_in _ (by omega)
            by_cases hxy : x < y
            · have HF := Lib.hid (flip_yes (l := l) (i := k) (k := p) (s := sgI l k) (by rw [← hx, ← hy]; exact hxy))
              rw [← hs] at HF
              clear hs hx hy
              go_wp2_with fail
              refine wp_region_quiet (C := Cls wr.heap.size wr) (by kernel_rfl) (by kernel_rfl) Cls.start ?_
              repeat
                (refine wpQuiet_step (fun K hK => ?_)
                 go_simp
                 first
                   | (refine hK _ ?_; clear hK K)
                   | (apply Exists.intro
                      refine ⟨fun w' hC => ?_, hK _ ?_⟩
                      · (obtain ⟨hr, hr2⟩ := hC.rules
                         first
                           | (fail)
                           | (go_simp; done)
                           | (go_simp; rfl))
                      clear hK K))
              refine wpQuiet_nil ?_
              intro w4 hw4
              have hbe := below_trans HBE.out hw4
              go_wp2_with fail
              go_roundg (k - p)
              case measure => omega
              case rel => exact ⟨p + 1, by omega, by omega, by rw [HF.out], by go_num, hbe⟩
            · have HF := Lib.hid (flip_no (l := l) (i := k) (k := p) (s := sgI l k) (by rw [← hx, ← hy]; exact hxy))
              rw [← hs] at HF
              clear hs hx hy
              go_wp2_with fail
              refine wp_region_quiet (C := Cls wr.heap.size wr) (by kernel_rfl) (by kernel_rfl) Cls.start ?_
              repeat
                (refine wpQuiet_step (fun K hK => ?_)
                 go_simp
                 first
                   | (refine hK _ ?_; clear hK K)
                   | (apply Exists.intro
                      refine ⟨fun w' hC => ?_, hK _ ?_⟩
                      · (obtain ⟨hr, hr2⟩ := hC.rules
                         first
                           | (fail)
                           | (go_simp; done)
                           | (go_simp; rfl))
                      clear hK K))
              refine wpQuiet_nil ?_
              intro w4 hw4
              have hbe := below_trans HBE.out hw4
              go_wp2_with fail
              go_roundg (k - p)
              case measure => omega
              case rel => exact ⟨p + 1, by omega, by omega, by rw [HF.out], by go_num, hbe⟩
          · obtain rfl : p = k := by omega
            go_wp2
            go_roundg (n - p)
            case measure => omega
            case rel => exact ⟨p + 1, by omega, by omega, rfl, by go_num, all_yet H0.out HI.out, hbel⟩
      · rw [show decide ((k : Int) ∈ l) = false by simpa using hin] at hr
        have HR := Lib.hid hr
        have HZ := Lib.hid (sign_none (by rw [HL.out]; exact hlt) hin)
        clear hin hr
        go_wp2_with (go_at_call 16; refine HR.out.mono ?_; rintro e w' ⟨rfl, rfl⟩)
        go_ret
        exact ⟨ret_int HZ.out.symm, hbel⟩
    · obtain rfl : k = n := by omega
      have HZ := Lib.hid (sign_all (l := l) (by rw [HL.out]; exact H0.out))
      rw [HL.out] at HZ
      go_wp2
      go_ret
      exact ⟨ret_int HZ.out.symm, hbel⟩
end Go.Proofs.YtkcgcedldjcfjaaDoor
