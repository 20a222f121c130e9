/- Plain: a log, read again, gives the book that wrote it. -/
import Derived.Test.YtokneabcgmjhdaaGreatDoorLogMath
namespace Go.Proofs.YtokneabcgmjhdaaGreatDoor
open Go.RowKit
set_option linter.unusedVariables false
set_option linter.unusedSimpArgs false

theorem dd_noByte {b : UInt8} (hb : isDig b = false) (n : Nat) : b ∉ Lib.decDigits n := fun h => by
  have := List.all_eq_true.1 (dd_spec n).2.1 b h
  rw [hb] at this
  cases this
theorem dig_list (n : Nat) : (dig (n : Int)).data.toList = Lib.decDigits n := by
  unfold dig
  rw [Lib.itoa_nonneg]
theorem app_list (a b : ByteArray) : (a ++ b).data.toList = a.data.toList ++ b.data.toList := by simp
theorem rec_list (word : ByteArray) (i j n : Nat) : (recOf word [(i : Int), j, n]).data.toList = word.data.toList ++ 32 :: (Lib.decDigits i ++ 32 :: (Lib.decDigits j ++ 32 :: Lib.decDigits n)) := by
  show (((word ++ (blank ++ dig (i : Int))) ++ (blank ++ dig (j : Int))) ++ (blank ++ dig (n : Int))).data.toList = _
  simp only [app_list, dig_list, show blank.data.toList = [32] from rfl, List.append_assoc, List.singleton_append]
  rfl
theorem rec_cut {word : ByteArray} {w : List UInt8} (hw : word.data.toList = w) (h32 : (32 : UInt8) ∉ w) (i j n : Nat) : cutL 32 (recOf word [(i : Int), j, n]).data.toList = [w, Lib.decDigits i, Lib.decDigits j, Lib.decDigits n] := by
  rw [rec_list, hw, cutL_app _ h32, cutL_app _ (dd_noByte rfl i), cutL_app _ (dd_noByte rfl j), cutL_free (dd_noByte rfl n)]
theorem line_list (word : ByteArray) (l : List Int) (S : Nat) (hS : (S : Int) = sumOf (recOf word l)) : (lineOf word l).data.toList = (recOf word l).data.toList ++ 32 :: Lib.decDigits S := by
  unfold lineOf
  rw [← hS, app_list, app_list, dig_list]
  simp only [show blank.data.toList = [32] from rfl, List.append_assoc, List.singleton_append]
theorem nDig_le {u : Nat} (h : u < 10000) : (Lib.decDigits u).length ≤ 4 := by
  rw [Lib.decDigits]
  split
  · simp
  · rw [Lib.decDigits]
    split
    · simp
    · rw [Lib.decDigits]
      split
      · simp
      · rw [Lib.decDigits]
        split
        · simp
        · omega
theorem dd_one {u : Nat} (h : u ≤ 3) : (Lib.decDigits u).length = 1 := (dd_spec u).2.2.2.2 (by omega)
/-- what one good line is -/
theorem line_facts {word : ByteArray} {w : UInt8} (hw : word.data.toList = [w]) (h32 : w ≠ 32) (h10 : w ≠ 10) {i j n : Nat} (hi : i ≤ 3) (hj : j ≤ 3) (hn : n ≤ 9972) :
    ∃ S : Nat, (S : Int) = sumOf (recOf word [(i : Int), j, n]) ∧ S ≤ 9972 ∧ (lineOf word [(i : Int), j, n]).data.toList = (recOf word [(i : Int), j, n]).data.toList ++ 32 :: Lib.decDigits S ∧ (10 : UInt8) ∉ (lineOf word [(i : Int), j, n]).data.toList ∧ (lineOf word [(i : Int), j, n]).size ≤ 15 ∧ (recOf word [(i : Int), j, n]).size ≤ 10 := by
  have hsz : (recOf word [(i : Int), j, n]).size ≤ 10 := by
    rw [← size_list, rec_list, hw]
    have h1 := dd_one hi
    have h2 := dd_one hj
    have h3 := nDig_le (show n < 10000 by omega)
    simp
    omega
  have hs := sumOf_in (r := recOf word [(i : Int), j, n]) (by omega)
  have hS : ((sumOf (recOf word [(i : Int), j, n])).toNat : Int) = sumOf (recOf word [(i : Int), j, n]) := by omega
  have hl := line_list word [(i : Int), j, n] _ hS
  refine ⟨_, hS, by omega, hl, ?_, ?_, hsz⟩
  · rw [hl, rec_list, hw]
    have d1 := dd_noByte (b := 10) rfl i
    have d2 := dd_noByte (b := 10) rfl j
    have d3 := dd_noByte (b := 10) rfl n
    have d4 := dd_noByte (b := 10) rfl (sumOf (recOf word [(i : Int), j, n])).toNat
    simp only [List.mem_append, List.mem_cons, List.not_mem_nil, or_false, not_or]
    have e : ¬ (10 : UInt8) = 32 := by decide
    exact ⟨⟨fun h => h10 h.symm, e, d1, e, d2, e, d3⟩, e, d4⟩
  · rw [← size_list, hl]
    have h4 := nDig_le (show (sumOf (recOf word [(i : Int), j, n])).toNat < 10000 by omega)
    rw [List.length_append, size_list, List.length_cons]
    omega
theorem lineE_line {word : ByteArray} {w : UInt8} (hw : word.data.toList = [w]) (h32 : w ≠ 32) (h10 : w ≠ 10) {i j n : Nat} (hi : i ≤ 3) (hj : j ≤ 3) (hn : n ≤ 9972) (s : BS) :
    lineE (lineOf word [(i : Int), j, n]).data.toList s = recE (recOf word [(i : Int), j, n]).data.toList s := by
  obtain ⟨S, hS, hS2, hl, -⟩ := line_facts hw h32 h10 hi hj hn
  have hc : lastCut (lineOf word [(i : Int), j, n]).data.toList = some ((recOf word [(i : Int), j, n]).data.toList, Lib.decDigits S) := by
    rw [hl]
    exact lastCut_app (dd_noByte rfl S) _
  unfold lineE
  rw [hc]
  simp only
  rw [numL_dd S (by omega)]
  simp only
  rw [if_neg]
  rw [ba_data]
  exact fun h => h hS
theorem wordS_list : wordS.data.toList = [115] := rfl
theorem wordA_list : wordA.data.toList = [97] := rfl
theorem nats_of {i j n : Int} (h : placeErr i j n = 0) : ∃ p q m : Nat, i = p ∧ j = q ∧ n = m ∧ p ≤ 3 ∧ q ≤ 3 ∧ m ≤ 9972 := by
  obtain ⟨⟨h1, h2⟩, ⟨h3, h4⟩, h5, h6⟩ := placeErr_ok h
  exact ⟨i.toNat, j.toNat, n.toNat, by omega, by omega, by omega, by omega, by omega, by omega⟩
theorem lineE_set {i j n : Int} {s : BS} (h : setErr i j n s.2.length = 0) : lineE (lineOf wordS [i, j, n]).data.toList s = (0, bSet s i j n) := by
  obtain ⟨p, q, m, rfl, rfl, rfl, hp, hq, hm⟩ := nats_of (setErr_zero h).1
  rw [lineE_line wordS_list (by decide) (by decide) hp hq hm]
  unfold recE
  rw [rec_cut wordS_list (by decide)]
  simp only
  rw [numL_dd p (by omega), numL_dd q (by omega), numL_dd m (by omega)]
  simp [h]
theorem lineE_add {i j n : Int} {s : BS} (h : addErr i j n s.2.length = 0) : lineE (lineOf wordA [i, j, n]).data.toList s = (0, bAdd s i j n) := by
  obtain ⟨p, q, m, rfl, rfl, rfl, hp, hq, hm⟩ := nats_of (addErr_zero h).1
  rw [lineE_line wordA_list (by decide) (by decide) hp hq hm]
  unfold recE
  rw [rec_cut wordA_list (by decide)]
  simp only
  rw [numL_dd p (by omega), numL_dd q (by omega), numL_dd m (by omega)]
  simp [h]
theorem runL_snoc : ∀ (ls : List (List UInt8)) (l : List UInt8) (s : BS) (k m : Nat) (st st' : BS), runL ls s k = (0, m, st) → lineE l st = (0, st') → runL (ls ++ [l]) s k = (0, m + 1, st')
  | [], l, s, k, m, st, st', h, hl => by
    simp only [runL, Prod.mk.injEq] at h
    obtain ⟨-, rfl, rfl⟩ := h
    rw [List.nil_append, runL, hl, if_pos rfl, runL]
  | x :: r, l, s, k, m, st, st', h, hl => by
    rw [runL] at h
    rw [List.cons_append, runL]
    by_cases he : (lineE x s).1 = 0
    · rw [if_pos he] at h ⊢
      exact runL_snoc r l _ _ m st st' h hl
    · rw [if_neg he] at h
      simp only [Prod.mk.injEq] at h
      exact absurd h.1 he

/-- lines of a book, as lists -/
def listsOf (lines : List ByteArray) : List (List UInt8) := lines.map fun l => l.data.toList
/-- a book with its log -/
structure LogOk (s : BS) : Prop where
  ok : BSok s
  lf : ∀ l ∈ s.2, (10 : UInt8) ∉ l.data.toList ∧ l.size ≤ 15
  run : runL (listsOf s.2) (zeros4, []) 0 = (0, s.2.length, s)
theorem LogOk.zero : LogOk (zeros4, []) := ⟨zeros_ok, (fun l h => by simp at h), rfl⟩
theorem LogOk.set {s : BS} (h : LogOk s) (i j n : Int) : LogOk (bSet s i j n) := by
  by_cases he : setErr i j n s.2.length = 0
  · have hb := h.ok.set i j n
    have hl := lineE_set he
    rw [show bSet s i j n = (putE s.1 i.toNat j.toNat n, s.2 ++ [lineOf wordS [i, j, n]]) from if_pos he] at hb hl ⊢
    refine ⟨hb, fun l hm => ?_, ?_⟩
    · rcases List.mem_append.1 hm with hm | hm
      · exact h.lf l hm
      · obtain rfl := List.mem_singleton.1 hm
        obtain ⟨p, q, m, rfl, rfl, rfl, hp, hq, hm⟩ := nats_of (setErr_zero he).1
        obtain ⟨S, -, -, -, h1, h2, -⟩ := line_facts wordS_list (by decide) (by decide) hp hq hm
        exact ⟨h1, h2⟩
    · unfold listsOf
      rw [List.map_append]
      show _ = (0, (s.2 ++ [lineOf wordS [i, j, n]]).length, _)
      rw [List.length_append]
      exact runL_snoc _ _ _ _ _ s _ h.run hl
  · rw [show bSet s i j n = s from if_neg he]; exact h
theorem LogOk.add {s : BS} (h : LogOk s) (i j n : Int) : LogOk (bAdd s i j n) := by
  by_cases he : addErr i j n s.2.length = 0
  · have hb := h.ok.add i j n
    have hl := lineE_add he
    rw [show bAdd s i j n = (addTo s.1 i.toNat j.toNat n 4, s.2 ++ [lineOf wordA [i, j, n]]) from if_pos he] at hb hl ⊢
    refine ⟨hb, fun l hm => ?_, ?_⟩
    · rcases List.mem_append.1 hm with hm | hm
      · exact h.lf l hm
      · obtain rfl := List.mem_singleton.1 hm
        obtain ⟨p, q, m, rfl, rfl, rfl, hp, hq, hm⟩ := nats_of (addErr_zero he).1
        obtain ⟨S, -, -, -, h1, h2, -⟩ := line_facts wordA_list (by decide) (by decide) hp hq hm
        exact ⟨h1, h2⟩
    · unfold listsOf
      rw [List.map_append]
      show _ = (0, (s.2 ++ [lineOf wordA [i, j, n]]).length, _)
      rw [List.length_append]
      exact runL_snoc _ _ _ _ _ s _ h.run hl
  · rw [show bAdd s i j n = s from if_neg he]; exact h
theorem LogOk.step {s : BS} (h : LogOk s) (l : List Int) : LogOk (bStep s l) := by
  unfold bStep
  by_cases h4 : l.length = 4
  · rw [if_pos h4]
    by_cases h0 : l.getD 0 0 = 0
    · rw [if_pos h0]; exact h.set _ _ _
    · rw [if_neg h0]; exact h.add _ _ _
  · rw [if_neg h4]; exact h
theorem bRun_log (steps : List (List Int)) : ∀ k, LogOk (bRun steps k)
  | 0 => LogOk.zero
  | k + 1 => (bRun_log steps k).step _

/-- the text of a log, cut at its line feeds -/
theorem lists_get (lines : List ByteArray) {k : Nat} (h : k < lines.length) : (listsOf lines)[k]? = some (lines.getD k ⟨#[]⟩).data.toList := by
  unfold listsOf
  rw [List.getElem?_map, List.getD_eq_getElem?_getD, List.getElem?_eq_getElem h]
  rfl
theorem textTo_eq (lines : List ByteArray) : ∀ k, k ≤ lines.length → textTo lines k = ((listsOf lines).take k).flatMap (· ++ [10])
  | 0, _ => rfl
  | k + 1, h => by
    rw [textTo, textTo_eq lines k (by omega), List.take_add_one, lists_get lines (by omega), Option.toList_some, List.flatMap_append, List.flatMap_singleton]
theorem text_list (lines : List ByteArray) : (textOf lines).data.toList = (listsOf lines).flatMap (· ++ [10]) := by
  unfold textOf
  rw [textTo_eq lines _ (Nat.le_refl _), List.take_of_length_le (by unfold listsOf; rw [List.length_map]; exact Nat.le_refl _)]
theorem cut_text : ∀ (ls : List (List UInt8)), (∀ l ∈ ls, (10 : UInt8) ∉ l) → cutL 10 (ls.flatMap (· ++ [10])) = ls ++ [[]]
  | [], _ => rfl
  | l :: r, h => by
    rw [List.flatMap_cons, List.append_assoc, List.singleton_append, cutL_app _ (h l (by simp)), cut_text r (fun x hx => h x (by simp [hx]))]
    rfl
theorem LogOk.lists {s : BS} (h : LogOk s) : ∀ l ∈ listsOf s.2, (10 : UInt8) ∉ l := fun l hl => by
  unfold listsOf at hl
  obtain ⟨b, hb, rfl⟩ := List.mem_map.1 hl
  exact (h.lf b hb).1
theorem LogOk.lines {s : BS} (h : LogOk s) : linesOf (textOf s.2).data.toList = listsOf s.2 := by
  unfold linesOf
  rw [text_list, cut_text _ h.lists, List.dropLast_concat]
theorem flat_len : ∀ (ls : List ByteArray), (∀ l ∈ ls, l.size ≤ 15) → ((listsOf ls).flatMap (· ++ [10])).length ≤ 16 * ls.length
  | [], _ => by simp [listsOf]
  | l :: r, h => by
    have h1 := flat_len r (fun x hx => h x (by simp [hx]))
    have h2 := h l (by simp)
    unfold listsOf at h1 ⊢
    rw [List.map_cons, List.flatMap_cons, List.length_append, List.length_append, size_list]
    simp only [List.length_cons, List.length_nil]
    omega
theorem LogOk.short {s : BS} (h : LogOk s) : (textOf s.2).size ≤ 960 := by
  have h1 := flat_len s.2 (fun l hl => (h.lf l hl).2)
  have h2 := h.ok.len
  rw [← size_list, text_list]
  omega
/-- opened it is as it was -/
theorem LogOk.open {s : BS} (h : LogOk s) : openE (textOf s.2).data.toList = (0, s.2.length, s) := by
  have h1 := h.short
  unfold openE
  rw [if_neg (by rw [size_list]; omega), h.lines]
  exact h.run
end Go.Proofs.YtokneabcgmjhdaaGreatDoor
