/- Plain: a log's text, cut anywhere: the lines that are whole, and the steps that wrote them. -/
import Derived.Test.YtokneabcgmjhdaaGreatDoorReplay
namespace Go.Proofs.YtokneabcgmjhdaaGreatDoor
open Go.RowKit
set_option linter.unusedVariables false
set_option linter.unusedSimpArgs false

theorem torn_cut : ∀ (ls : List (List UInt8)) (m : Nat), (∀ l ∈ ls, (10 : UInt8) ∉ l) → m ≤ (ls.flatMap (· ++ [10])).length →
    linesOf ((ls.flatMap (· ++ [10])).take m) = ls.take (((ls.flatMap (· ++ [10])).take m).count 10) ∧ ((ls.take (((ls.flatMap (· ++ [10])).take m).count 10)).flatMap (· ++ [10])).length ≤ m ∧ ((ls.flatMap (· ++ [10])).take m).count 10 ≤ ls.length
  | [], m, _, _ => by simp [linesOf, cutL]
  | l :: r, m, h, hm => by
    have hl := h l (by simp)
    have hfl : ((l :: r).flatMap (· ++ [10])) = l ++ 10 :: r.flatMap (· ++ [10]) := by rw [List.flatMap_cons, List.append_assoc, List.singleton_append]
    rw [hfl] at hm ⊢
    by_cases hml : m ≤ l.length
    · have ht : (l ++ 10 :: r.flatMap (· ++ [10])).take m = l.take m := List.take_append_of_le_length hml
      have hn : (10 : UInt8) ∉ l.take m := fun hx => hl (List.mem_of_mem_take hx)
      rw [ht, List.count_eq_zero_of_not_mem hn]
      unfold linesOf
      rw [cutL_free hn]
      simp
    · obtain ⟨m', rfl⟩ : ∃ m', m = l.length + (m' + 1) := ⟨m - l.length - 1, by omega⟩
      have ht : (l ++ 10 :: r.flatMap (· ++ [10])).take (l.length + (m' + 1)) = l ++ 10 :: (r.flatMap (· ++ [10])).take m' := by
        rw [List.take_length_add_append, List.take_succ_cons]
      obtain ⟨h1, h2, h3⟩ := torn_cut r m' (fun x hx => h x (by simp [hx])) (by rw [List.length_append, List.length_cons] at hm; omega)
      rw [ht]
      have hc : (l ++ 10 :: (r.flatMap (· ++ [10])).take m').count 10 = ((r.flatMap (· ++ [10])).take m').count 10 + 1 := by
        rw [List.count_append, List.count_eq_zero_of_not_mem hl, List.count_cons]
        simp
      rw [hc]
      refine ⟨?_, ?_, ?_⟩
      · unfold linesOf at h1 ⊢
        rw [cutL_app _ hl, List.take_succ_cons, List.dropLast_cons_of_ne_nil (cutL_ne _ _), h1]
      · rw [List.take_succ_cons, List.flatMap_cons]
        simp only [List.length_append, List.length_singleton]
        omega
      · simp only [List.length_cons]
        omega
theorem step_pre (s : BS) (l : List Int) : s.2 <+: (bStep s l).2 ∧ (bStep s l).2.length ≤ s.2.length + 1 := by
  have key : ∀ (c : Prop) [Decidable c] (r : List (List Int)) (x : ByteArray), s.2 <+: (if c then (r, s.2 ++ [x]) else s).2 ∧ (if c then (r, s.2 ++ [x]) else s).2.length ≤ s.2.length + 1 := fun c _ r x => by
    by_cases hc : c
    · rw [if_pos hc]; exact ⟨List.prefix_append _ _, by simp⟩
    · rw [if_neg hc]; exact ⟨List.prefix_refl _, by omega⟩
  unfold bStep
  by_cases h4 : l.length = 4
  · rw [if_pos h4]
    by_cases h0 : l.getD 0 0 = 0
    · rw [if_pos h0]; exact key _ _ _
    · rw [if_neg h0]; exact key _ _ _
  · rw [if_neg h4]; exact ⟨List.prefix_refl _, by omega⟩
theorem run_pre (steps : List (List Int)) (k : Nat) : ∀ d, (bRun steps k).2 <+: (bRun steps (k + d)).2
  | 0 => List.prefix_refl _
  | d + 1 => (run_pre steps k d).trans (step_pre (bRun steps (k + d)) (steps.getD (k + d) [])).1
theorem run_at (steps : List (List Int)) : ∀ K L, L ≤ (bRun steps K).2.length → ∃ k, k ≤ K ∧ (bRun steps k).2.length = L
  | 0, L, h => ⟨0, Nat.le_refl _, by simp [bRun] at h ⊢; omega⟩
  | K + 1, L, h => by
    by_cases h2 : L ≤ (bRun steps K).2.length
    · obtain ⟨k, h3, h4⟩ := run_at steps K L h2
      exact ⟨k, by omega, h4⟩
    · have := (step_pre (bRun steps K) (steps.getD K [])).2
      rw [bRun] at h
      exact ⟨K + 1, Nat.le_refl _, by rw [bRun]; omega⟩
theorem run_lists (steps : List (List Int)) {k K : Nat} (h : k ≤ K) : listsOf (bRun steps k).2 = (listsOf (bRun steps K).2).take (bRun steps k).2.length := by
  obtain ⟨r, hr⟩ := run_pre steps k (K - k)
  rw [show k + (K - k) = K by omega] at hr
  rw [← hr]
  unfold listsOf
  rw [List.map_append, List.take_left' (by simp)]
/-- what the torn text says -/
theorem torn_all (steps : List (List Int)) (K m : Nat) (hm : m ≤ (textOf (bRun steps K).2).data.toList.length) : ∃ s : BS, LogOk s ∧ s.2.length = ((textOf (bRun steps K).2).data.toList.take m).count 10 ∧
    openE ((textOf (bRun steps K).2).data.toList.take m) = (0, ((textOf (bRun steps K).2).data.toList.take m).count 10, s) ∧ (textOf s.2).size ≤ m ∧ ((textOf (bRun steps K).2).data.toList.take m).count 10 ≤ (bRun steps K).2.length ∧
    ∀ k, k ≤ K → (bRun steps k).2.length = ((textOf (bRun steps K).2).data.toList.take m).count 10 → bRun steps k = s := by
  have hlog := bRun_log steps K
  have hsh := hlog.short
  rw [text_list] at hm ⊢
  obtain ⟨h1, h2, h3⟩ := torn_cut (listsOf (bRun steps K).2) m hlog.lists hm
  generalize hL : (((listsOf (bRun steps K).2).flatMap (· ++ [10])).take m).count 10 = L at *
  have hll : (listsOf (bRun steps K).2).length = (bRun steps K).2.length := by unfold listsOf; simp
  rw [hll] at h3
  have key : ∀ k, k ≤ K → (bRun steps k).2.length = L → runL ((listsOf (bRun steps K).2).take L) (zeros4, []) 0 = (0, L, bRun steps k) := fun k hk hl => by
    have hr := (bRun_log steps k).run
    rw [run_lists steps hk, hl] at hr
    exact hr
  obtain ⟨k0, hk0, hl0⟩ := run_at steps K L h3
  refine ⟨bRun steps k0, bRun_log steps k0, hl0, ?_, ?_, h3, fun k hk hl => ?_⟩
  · unfold openE
    rw [if_neg, h1, key k0 hk0 hl0]
    rw [List.length_take, ← text_list, size_list]
    omega
  · rw [← size_list, text_list, run_lists steps hk0, hl0]
    exact h2
  · have e := (key k hk hl).symm.trans (key k0 hk0 hl0)
    simp only [Prod.mk.injEq] at e
    exact e.2.2
end Go.Proofs.YtokneabcgmjhdaaGreatDoor
