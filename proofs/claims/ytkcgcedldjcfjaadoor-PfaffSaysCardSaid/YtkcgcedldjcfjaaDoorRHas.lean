/- Contract of the reference's Has. -/
import Derived.Test.YtkcgcedldjcfjaaDoorMem
import Derived.Deep.LoopGhost
namespace Go.Proofs.YtkcgcedldjcfjaaDoor
open Go.RowKit
set_option linter.unusedVariables false
set_option linter.unusedSimpArgs false

theorem take_notin {xs : List Int} {k : Nat} {x : Int} (h : ¬ x ∈ xs.take k) (hk : k < xs.length) (hx : xs.getD k 0 ≠ x) : ¬ x ∈ xs.take (k + 1) := by
  rw [List.take_add_one, List.mem_append]
  rintro (h1 | h1)
  · exact h h1
  · rw [List.getElem?_eq_getElem hk] at h1
    rw [List.getD_eq_getElem?_getD, List.getElem?_eq_getElem hk] at hx
    simp at h1 hx
    exact hx h1.symm
theorem RHas_any (a : Option Addr) (n cap : Nat) (xs : List Int) (x : Int) (w : World) (hx : IntsAt w a n xs) (hn : n ≤ 1000) :
    Calls Tryd.prog 16 #[.slice a n cap, .int .i64 x] w fun e w' => e = .returned (.bool (decide (x ∈ xs))) ∧ w = w' := by
  obtain ⟨hlen, hc⟩ := hx
  have HL := Lib.hid hlen
  clear hlen
  go_enter Tryd.func16, Tryd.ntmps16
  go_wp2
  go_loopg [5] (n + 1) (fun g i wr => ∃ k : Nat, k ≤ n ∧ n - k < g ∧ i = .int .i64 k ∧ ¬ x ∈ xs.take k ∧ wr = w)
  case atStart => exact ⟨0, by omega, by omega, rfl, by simp, rfl⟩
  case round =>
    obtain ⟨k, hk, hg, rfl, h0, rfl⟩ := hrel
    have H0 := Lib.hid h0
    clear h0
    by_cases hlt : k < n
    · obtain ⟨b, off, rfl, hcell⟩ := hc k hlt
      obtain ⟨y, hy⟩ : ∃ y, y = xs.getD k 0 := ⟨_, rfl⟩
      rw [← hy] at hcell
      have HY := Lib.hid hy
      clear hy hc
      by_cases he : y = x
      · have hin : decide (x ∈ xs) = true := by
          rw [decide_eq_true_eq, ← he, HY.out, List.getD_eq_getElem?_getD, List.getElem?_eq_getElem (by rw [HL.out]; exact hlt)]
          exact List.getElem_mem _
        have HIN := Lib.hid hin
        subst he
        clear hin
        go_wp2
        go_ret
        exact ⟨ret_bool HIN.out.symm, rfl⟩
      · go_wp2
        go_roundg (n - k)
        case measure => omega
        case rel => exact ⟨k + 1, by omega, by omega, by go_num, take_notin H0.out (by rw [HL.out]; exact hlt) (by rw [← HY.out]; exact he), rfl⟩
    · have hin : decide (x ∈ xs) = false := by
        rw [decide_eq_false_iff_not]
        have := H0.out
        rwa [List.take_of_length_le (by rw [HL.out]; omega)] at this
      have HIN := Lib.hid hin
      clear hin
      go_wp2
      go_ret
      exact ⟨ret_bool HIN.out.symm, rfl⟩
end Go.Proofs.YtkcgcedldjcfjaaDoor
