/- The desk, first part: DeskMath, DeskLaw, DeskLast, DeskCmd, DeskMem, DeskNum, DeskName, DeskLineM. -/
import Derived.Test.YtokneabcgmjhdaaGreatDoorTornMath
import Derived.Test.YtokneabcgmjhdaaGreatDoorRefSum
import Derived.Deep.LoopGhost
import Derived.MapKept
import Derived.Carry
import Derived.ChangeMaps5
import Derived.Test.YtokneabcgmjhdaaGreatDoorBookApart
import Derived.Lib.OthersKept
import Derived.Test.YtokneabcgmjhdaaGreatDoorOpNum
import Derived.Test.YtokneabcgmjhdaaGreatDoorTold
/- Plain: what a session answers; its states; its lines. -/
namespace Go.Proofs.YtokneabcgmjhdaaGreatDoor
open Go.RowKit
set_option linter.unusedVariables false
set_option linter.unusedSimpArgs false

def kOk : List UInt8 := [111, 107]
def kBad : List UInt8 := [98, 97, 100]
def kSet : List UInt8 := [115, 101, 116]
def kAdd : List UInt8 := [97, 100, 100]
def kGet : List UInt8 := [103, 101, 116]
def kDet : List UInt8 := [100, 101, 116]
def kCrash : List UInt8 := [99, 114, 97, 115, 104]
def kFound : List UInt8 := [102, 111, 117, 110, 100, 32]
def kLong : List UInt8 := [116, 111, 111, 32, 108, 111, 110, 103, 10]
/-- an error's name -/
def nameL (e : Int) : List UInt8 :=
  if e = 1 then [69, 114, 114, 82, 97, 110, 103, 101]
  else if e = 2 then [69, 114, 114, 83, 121, 110, 116, 97, 120]
  else if e = 3 then [69, 114, 114, 83, 104, 97, 112, 101]
  else if e = 4 then [69, 114, 114, 70, 117, 108, 108]
  else if e = 5 then [69, 114, 114, 78, 111, 110, 101]
  else if e = 6 then [69, 114, 114, 67, 108, 97, 115, 104]
  else [69, 114, 114, 83, 116, 97, 116, 101]
def saidL (e : Int) : List UInt8 := if e = 0 then kOk else nameL e
/-- a number of seven digits at most -/
def num7 (l : List UInt8) : Option Nat := if l.length ≤ 7 then numL l else none
def nums7 : List (List UInt8) → Option (List Nat)
  | [] => some []
  | p :: r => match num7 p with
    | none => none
    | some n => match nums7 r with
      | none => none
      | some ns => some (n :: ns)
/-- a command with its numbers: the answer, the book behind it -/
def cmdE (w : List UInt8) (ns : List Nat) (s : BS) : List UInt8 × BS :=
  match ns with
  | [] => if w = kDet then (Lib.decDigits (G_det s.1).toNat, s) else (kBad, s)
  | [n] => if w = kCrash then (kFound ++ Lib.decDigits (openE ((textOf s.2).data.toList.take n)).2.1, (openE ((textOf s.2).data.toList.take n)).2.2) else (kBad, s)
  | [i, j] => if w = kGet then (if 3 < i ∨ 3 < j then (nameL 1, s) else (Lib.decDigits (fn s.1 i j).toNat, s)) else (kBad, s)
  | [i, j, n] => if w = kSet then (saidL (setErr i j n s.2.length), bSet s i j n) else if w = kAdd then (saidL (addErr i j n s.2.length), bAdd s i j n) else (kBad, s)
  | _ => (kBad, s)
theorem cmdE_0 (w : List UInt8) (s : BS) : cmdE w [] s = if w = kDet then (Lib.decDigits (G_det s.1).toNat, s) else (kBad, s) := rfl
theorem cmdE_1 (w : List UInt8) (n : Nat) (s : BS) : cmdE w [n] s = if w = kCrash then (kFound ++ Lib.decDigits (openE ((textOf s.2).data.toList.take n)).2.1, (openE ((textOf s.2).data.toList.take n)).2.2) else (kBad, s) := rfl
theorem cmdE_2 (w : List UInt8) (i j : Nat) (s : BS) : cmdE w [i, j] s = if w = kGet then (if 3 < i ∨ 3 < j then (nameL 1, s) else (Lib.decDigits (fn s.1 i j).toNat, s)) else (kBad, s) := rfl
theorem cmdE_3 (w : List UInt8) (i j n : Nat) (s : BS) : cmdE w [i, j, n] s = if w = kSet then (saidL (setErr i j n s.2.length), bSet s i j n) else if w = kAdd then (saidL (addErr i j n s.2.length), bAdd s i j n) else (kBad, s) := rfl
theorem cmdE_4 (w : List UInt8) (a b c d : Nat) (r : List Nat) (s : BS) : cmdE w (a :: b :: c :: d :: r) s = (kBad, s) := rfl
def answerE (l : List UInt8) (s : BS) : List UInt8 × BS :=
  match cutL 32 l with
  | [] => (kBad, s)
  | w :: ps => match nums7 ps with
    | none => (kBad, s)
    | some ns => cmdE w ns s
/-- lines, one behind the other: all answers, the book -/
def sessR : List (List UInt8) → BS → List UInt8 × BS
  | [], s => ([], s)
  | l :: r, s => ((answerE l s).1 ++ 10 :: (sessR r (answerE l s).2).1, (sessR r (answerE l s).2).2)
/-- the lines of a session -/
def slines (t : List UInt8) : List (List UInt8) := if (cutL 10 t).getLast? = some [] then (cutL 10 t).dropLast else cutL 10 t
def sessE (t : List UInt8) : List UInt8 := if 3000 < t.length then kLong else (sessR (slines t) (zeros4, [])).1

theorem slines_nil : slines [] = [] := rfl
theorem slines_free {l : List UInt8} (h : (10 : UInt8) ∉ l) (hne : l ≠ []) : slines l = [l] := by
  unfold slines
  rw [cutL_free h, if_neg]
  simpa using hne
theorem slines_app {l : List UInt8} (r : List UInt8) (h : (10 : UInt8) ∉ l) : slines (l ++ 10 :: r) = l :: slines r := by
  have hne := cutL_ne 10 r
  have e : (l :: cutL 10 r).getLast? = (cutL 10 r).getLast? := by
    rw [List.getLast?_cons]
    cases hc : cutL 10 r with
    | nil => exact absurd hc hne
    | cons a b => simp [List.getLast?_cons]
  unfold slines
  rw [cutL_app r h, e, List.dropLast_cons_of_ne_nil hne]
  split <;> rfl
theorem slines_lf (r : List UInt8) : slines (10 :: r) = [] :: slines r := slines_app (l := []) r (by simp)
/-- a text, cut at its first line feed -/
theorem lf_split : ∀ (t : List UInt8), (10 : UInt8) ∉ t ∨ ∃ a r, t = a ++ 10 :: r ∧ (10 : UInt8) ∉ a
  | [] => Or.inl (by simp)
  | b :: t => by
    by_cases hb : b = 10
    · exact Or.inr ⟨[], t, by rw [hb]; rfl, by simp⟩
    · rcases lf_split t with h | ⟨a, r, h1, h2⟩
      · exact Or.inl (by simp only [List.mem_cons, not_or]; exact ⟨fun e => hb e.symm, h⟩)
      · exact Or.inr ⟨b :: a, r, by rw [h1]; rfl, by simp only [List.mem_cons, not_or]; exact ⟨fun e => hb e.symm, h2⟩⟩
/-- a session behind whole lines -/
theorem slines_two : ∀ (k : Nat) (t u : List UInt8), t.length ≤ k → (t = [] ∨ t.getLast? = some 10) → slines (t ++ u) = slines t ++ slines u
  | k, [], u, _, _ => by rw [List.nil_append, slines_nil, List.nil_append]
  | 0, b :: t, u, h, _ => by simp at h
  | k + 1, b :: t, u, h, hl => by
    rcases lf_split (b :: t) with h1 | ⟨a, r, h1, h2⟩
    · rcases hl with hl | hl
      · cases hl
      · exact absurd (List.mem_of_getLast? hl) h1
    · rw [h1, List.append_assoc, List.cons_append, slines_app _ h2, slines_app _ h2, List.cons_append]
      have hlen := congrArg List.length h1
      rw [List.length_append, List.length_cons, List.length_cons] at hlen
      rw [List.length_cons] at h
      rw [slines_two k r u (by omega) ?_]
      rw [h1] at hl
      rcases hl with hl | hl
      · simp at hl
      · cases hr : r with
        | nil => exact Or.inl rfl
        | cons x y =>
          rw [hr] at hl
          refine Or.inr ?_
          rw [List.getLast?_append] at hl
          simpa [List.getLast?_cons] using hl
theorem slines_len : ∀ (k : Nat) (t : List UInt8), t.length ≤ k → (slines t).length = t.count 10 + (if t = [] ∨ t.getLast? = some 10 then 0 else 1)
  | k, [], _ => by simp [slines_nil]
  | 0, b :: t, h => by simp at h
  | k + 1, b :: t, h => by
    rcases lf_split (b :: t) with h1 | ⟨a, r, h1, h2⟩
    · rw [slines_free h1 (by simp), List.count_eq_zero_of_not_mem h1, if_neg]
      · rfl
      · rintro (h | h)
        · cases h
        · exact h1 (List.mem_of_getLast? h)
    · have hlen := congrArg List.length h1
      rw [List.length_append, List.length_cons, List.length_cons] at hlen
      rw [List.length_cons] at h
      rw [h1, slines_app _ h2, List.length_cons, slines_len k r (by omega), List.count_append, List.count_eq_zero_of_not_mem h2, List.count_cons_self]
      have e : (a ++ 10 :: r = [] ∨ (a ++ 10 :: r).getLast? = some 10) ↔ (r = [] ∨ r.getLast? = some 10) := by
        cases r with
        | nil => simp
        | cons x y =>
          rw [List.getLast?_append]
          simp [List.getLast?_cons]
      simp only [e]
      omega
theorem sessR_two : ∀ (a b : List (List UInt8)) (s : BS), sessR (a ++ b) s = ((sessR a s).1 ++ (sessR b (sessR a s).2).1, (sessR b (sessR a s).2).2)
  | [], b, s => by simp [sessR]
  | l :: a, b, s => by
    rw [List.cons_append, sessR, sessR_two a b, sessR]
    simp

/-- what is so of a session's book: it is its log's, and so is each beginning -/
structure DeskOk (s : BS) : Prop where
  log : LogOk s
  pre : ∀ L, L ≤ s.2.length → ∃ s', LogOk s' ∧ s'.2 = s.2.take L
theorem DeskOk.ok {s : BS} (h : DeskOk s) : BSok s := h.log.ok
theorem DeskOk.zero : DeskOk (zeros4, []) := ⟨LogOk.zero, fun L h => ⟨(zeros4, []), LogOk.zero, by simp⟩⟩
theorem DeskOk.grow {s s' : BS} {x : ByteArray} (h : DeskOk s) (h' : LogOk s') (hx : s'.2 = s.2 ++ [x]) : DeskOk s' := by
  refine ⟨h', fun L hL => ?_⟩
  rw [hx, List.length_append, List.length_singleton] at hL
  by_cases hl : L ≤ s.2.length
  · obtain ⟨t, h1, h2⟩ := h.pre L hl
    exact ⟨t, h1, by rw [hx, List.take_append_of_le_length hl]; exact h2⟩
  · exact ⟨s', h', by rw [hx, List.take_of_length_le (by simp; omega)]⟩
theorem DeskOk.set {s : BS} (h : DeskOk s) (i j n : Int) : DeskOk (bSet s i j n) := by
  by_cases he : setErr i j n s.2.length = 0
  · exact h.grow (h.log.set i j n) (by rw [bSet_len he])
  · rw [show bSet s i j n = s from if_neg he]; exact h
theorem DeskOk.add {s : BS} (h : DeskOk s) (i j n : Int) : DeskOk (bAdd s i j n) := by
  by_cases he : addErr i j n s.2.length = 0
  · exact h.grow (h.log.add i j n) (by rw [bAdd_len he])
  · rw [show bAdd s i j n = s from if_neg he]; exact h
/-- a crash: some lines are left -/
theorem DeskOk.crash {s : BS} (h : DeskOk s) (n : Nat) : ∃ s', openE ((textOf s.2).data.toList.take n) = (0, s'.2.length, s') ∧ DeskOk s' ∧ s'.2.length ≤ s.2.length ∧ ((textOf s.2).data.toList.length ≤ n → s' = s) := by
  by_cases hn : (textOf s.2).data.toList.length ≤ n
  · refine ⟨s, ?_, h, Nat.le_refl _, fun _ => rfl⟩
    rw [List.take_of_length_le hn]
    exact h.log.open
  · have hsh := h.log.short
    have hlen : (textOf s.2).data.toList.length ≤ 960 := by rw [size_list]; exact hsh
    rw [text_list] at *
    obtain ⟨h1, h2, h3⟩ := torn_cut (listsOf s.2) n h.log.lists (by omega)
    generalize hL : (((listsOf s.2).flatMap (· ++ [10])).take n).count 10 = L at *
    have hll : (listsOf s.2).length = s.2.length := by unfold listsOf; simp
    rw [hll] at h3
    obtain ⟨s', h4, h5⟩ := h.pre L h3
    have hsl : s'.2.length = L := by rw [h5, List.length_take]; omega
    refine ⟨s', ?_, ⟨h4, fun M hM => ?_⟩, by omega, fun h => absurd h hn⟩
    · unfold openE
      rw [if_neg (by rw [List.length_take]; omega), h1]
      have hr := h4.run
      rw [h5] at hr
      have e : listsOf (s.2.take L) = (listsOf s.2).take L := by unfold listsOf; rw [List.map_take]
      rw [e, ← h5] at hr
      exact hr
    · obtain ⟨t, h6, h7⟩ := h.pre M (by omega)
      exact ⟨t, h6, by rw [h7, h5, List.take_take, Nat.min_eq_left (by omega)]⟩
theorem DeskOk.cmd {s : BS} (h : DeskOk s) (w : List UInt8) (ns : List Nat) : DeskOk (cmdE w ns s).2 := by
  match ns with
  | [] =>
    rw [cmdE_0]
    split <;> exact h
  | [n] =>
    rw [cmdE_1]
    split
    · obtain ⟨s', h1, h2, -⟩ := h.crash n
      simp only [h1]
      exact h2
    · exact h
  | [i, j] =>
    rw [cmdE_2]
    split
    · split <;> exact h
    · exact h
  | [i, j, n] =>
    rw [cmdE_3]
    split
    · exact h.set _ _ _
    · split
      · exact h.add _ _ _
      · exact h
  | _ :: _ :: _ :: _ :: _ =>
    rw [cmdE_4]
    exact h
theorem DeskOk.answer {s : BS} (h : DeskOk s) (l : List UInt8) : DeskOk (answerE l s).2 := by
  unfold answerE
  split
  · exact h
  · split
    · exact h
    · exact h.cmd _ _
theorem DeskOk.sess : ∀ (ls : List (List UInt8)) {s : BS}, DeskOk s → DeskOk (sessR ls s).2
  | [], s, h => h
  | l :: r, s, h => by
    rw [sessR]
    exact DeskOk.sess r (h.answer l)

/-- no answer holds a line feed -/
theorem dd_lf (n : Nat) : (10 : UInt8) ∉ Lib.decDigits n := dd_noByte rfl n
theorem nameL_lf (e : Int) : (10 : UInt8) ∉ nameL e := by
  unfold nameL
  repeat' split
  all_goals decide
theorem saidL_lf (e : Int) : (10 : UInt8) ∉ saidL e := by
  unfold saidL
  split
  · decide
  · exact nameL_lf e
theorem cmdE_lf (w : List UInt8) (ns : List Nat) (s : BS) : (10 : UInt8) ∉ (cmdE w ns s).1 := by
  have hb : (10 : UInt8) ∉ kBad := by decide
  match ns with
  | [] =>
    rw [cmdE_0]
    split
    · exact dd_lf _
    · exact hb
  | [n] =>
    rw [cmdE_1]
    split
    · simp only [List.mem_append, not_or]
      exact ⟨by decide, dd_lf _⟩
    · exact hb
  | [i, j] =>
    rw [cmdE_2]
    split
    · split
      · exact nameL_lf 1
      · exact dd_lf _
    · exact hb
  | [i, j, n] =>
    rw [cmdE_3]
    split
    · exact saidL_lf _
    · split
      · exact saidL_lf _
      · exact hb
  | _ :: _ :: _ :: _ :: _ =>
    rw [cmdE_4]
    exact hb
theorem answerE_lf (l : List UInt8) (s : BS) : (10 : UInt8) ∉ (answerE l s).1 := by
  have hb : (10 : UInt8) ∉ kBad := by decide
  unfold answerE
  split
  · exact hb
  · split
    · exact hb
    · exact cmdE_lf _ _ _
theorem sessR_count : ∀ (ls : List (List UInt8)) (s : BS), (sessR ls s).1.count 10 = ls.length
  | [], s => rfl
  | l :: r, s => by
    rw [sessR, List.count_append, List.count_eq_zero_of_not_mem (answerE_lf l s), List.count_cons_self, sessR_count r, List.length_cons]
    omega
theorem sessR_last : ∀ (ls : List (List UInt8)) (s : BS), (sessR ls s).1 = [] ∨ (sessR ls s).1.getLast? = some 10
  | [], s => Or.inl rfl
  | l :: r, s => by
    refine Or.inr ?_
    rw [sessR, List.getLast?_append]
    rcases sessR_last r (answerE l s).2 with h | h
    · simp [h]
    · rw [List.getLast?_cons, h]
      simp
/-- the last line of all answers -/
theorem sessR_snoc (ls : List (List UInt8)) (l : List UInt8) (s : BS) : (sessR (ls ++ [l]) s).1 = (sessR ls s).1 ++ ((answerE l (sessR ls s).2).1 ++ [10]) ∧ (sessR (ls ++ [l]) s).2 = (answerE l (sessR ls s).2).2 := by
  rw [sessR_two]
  simp [sessR]
end Go.Proofs.YtokneabcgmjhdaaGreatDoor

/- Plain: the laws of a session: its last line; what is set outlives a crash. -/
namespace Go.Proofs.YtokneabcgmjhdaaGreatDoor
open Go.RowKit
set_option linter.unusedVariables false
set_option linter.unusedSimpArgs false

/-- the place behind the last line feed below i -/
def lastFrom (l : List UInt8) : Nat → Nat
  | 0 => 0
  | i + 1 => if l.getD i 0 = 10 then i + 1 else lastFrom l i
def lastL (l : List UInt8) : List UInt8 := l.drop (lastFrom l (l.length - 1))
theorem lastFrom_free (l : List UInt8) : ∀ (k p : Nat), p ≤ k → (∀ i, p ≤ i → i < k → l.getD i 0 ≠ 10) → lastFrom l k = lastFrom l p
  | 0, p, h, _ => by
    obtain rfl : p = 0 := by omega
    rfl
  | k + 1, p, h, hf => by
    by_cases hp : p = k + 1
    · rw [hp]
    · rw [lastFrom, if_neg (hf k (by omega) (by omega))]
      exact lastFrom_free l k p (by omega) (fun i h1 h2 => hf i h1 (by omega))
theorem lastL_eq {p a : List UInt8} (hp : p = [] ∨ p.getLast? = some 10) (ha : (10 : UInt8) ∉ a) : lastL (p ++ (a ++ [10])) = a ++ [10] := by
  unfold lastL
  have hlen : (p ++ (a ++ [10])).length - 1 = p.length + a.length := by rw [List.length_append, List.length_append, List.length_singleton]; omega
  rw [hlen, lastFrom_free _ _ p.length (by omega) (fun i h1 h2 e => ?_)]
  · have : lastFrom (p ++ (a ++ [10])) p.length = p.length := by
      rcases hp with rfl | hp
      · rfl
      · obtain ⟨q, rfl⟩ := List.getLast?_eq_some_iff.1 hp
        rw [List.length_append, List.length_singleton, lastFrom, if_pos]
        simp [List.getD]
    rw [this, List.drop_left]
  · refine ha ?_
    have hi : i - p.length < a.length := by omega
    rw [List.getD_eq_getElem?_getD, List.getElem?_append_right h1, List.getElem?_append_left hi, List.getElem?_eq_getElem hi, Option.getD_some] at e
    rw [← e]
    exact List.getElem_mem hi
theorem last_sess (ls : List (List UInt8)) (l : List UInt8) (s : BS) : lastL (sessR (ls ++ [l]) s).1 = (answerE l (sessR ls s).2).1 ++ [10] := by
  rw [(sessR_snoc ls l s).1]
  exact lastL_eq (sessR_last ls s) (answerE_lf _ _)
/-- a session with one line more, two, three -/
theorem slines_line {l : List UInt8} (h : (10 : UInt8) ∉ l) : slines (l ++ [10]) = [l] := by
  rw [slines_app [] h, slines_nil]
theorem ends_lf (t l : List UInt8) : (t ++ (l ++ [10]) = [] ∨ (t ++ (l ++ [10])).getLast? = some 10) := Or.inr (by simp)
theorem sess_one {t l : List UInt8} (ht : t = [] ∨ t.getLast? = some 10) (hl : (10 : UInt8) ∉ l) (hs : t.length + (l.length + 1) ≤ 3000) :
    lastL (sessE (t ++ (l ++ [10]))) = (answerE l (sessR (slines t) (zeros4, [])).2).1 ++ [10] ∧ sessR (slines (t ++ (l ++ [10]))) (zeros4, []) = ((sessR (slines (t ++ (l ++ [10]))) (zeros4, [])).1, (answerE l (sessR (slines t) (zeros4, [])).2).2) := by
  have e : slines (t ++ (l ++ [10])) = slines t ++ [l] := by rw [slines_two _ t _ (Nat.le_refl _) ht, slines_line hl]
  constructor
  · unfold sessE
    rw [if_neg (by simp; omega), e]
    exact last_sess _ _ _
  · rw [e, ← (sessR_snoc (slines t) l (zeros4, [])).2]
theorem num7_dd {n : Nat} (h : n < 10000) : num7 (Lib.decDigits n) = some n := by
  unfold num7
  have := nDig_le h
  rw [if_pos (by omega), numL_dd n (by omega)]
def setT (i j n : Nat) : List UInt8 := kSet ++ 32 :: (Lib.decDigits i ++ 32 :: (Lib.decDigits j ++ 32 :: Lib.decDigits n))
def getT (i j : Nat) : List UInt8 := kGet ++ 32 :: (Lib.decDigits i ++ 32 :: Lib.decDigits j)
def crashT : List UInt8 := kCrash ++ 32 :: [57, 57, 57, 57, 57, 57, 57]
theorem setT_lf (i j n : Nat) : (10 : UInt8) ∉ setT i j n := by
  unfold setT
  have e : ¬ (10 : UInt8) = 32 := by decide
  simp only [List.mem_append, List.mem_cons, not_or]
  exact ⟨by decide, e, dd_lf _, e, dd_lf _, e, dd_lf _⟩
theorem getT_lf (i j : Nat) : (10 : UInt8) ∉ getT i j := by
  unfold getT
  have e : ¬ (10 : UInt8) = 32 := by decide
  simp only [List.mem_append, List.mem_cons, not_or]
  exact ⟨by decide, e, dd_lf _, e, dd_lf _⟩
theorem crashT_lf : (10 : UInt8) ∉ crashT := by decide
theorem setT_len {i j n : Nat} (hi : i ≤ 3) (hj : j ≤ 3) (hn : n ≤ 9972) : (setT i j n).length ≤ 12 := by
  unfold setT
  have h1 := dd_one hi
  have h2 := dd_one hj
  have h3 := nDig_le (show n < 10000 by omega)
  have h4 : kSet.length = 3 := rfl
  simp only [List.length_append, List.length_cons]
  omega
theorem getT_len {i j : Nat} (hi : i ≤ 3) (hj : j ≤ 3) : (getT i j).length ≤ 7 := by
  unfold getT
  have h1 := dd_one hi
  have h2 := dd_one hj
  have h4 : kGet.length = 3 := rfl
  simp only [List.length_append, List.length_cons]
  omega
theorem answer_set {i j n : Nat} (hi : i ≤ 3) (hj : j ≤ 3) (hn : n ≤ 9972) (s : BS) : answerE (setT i j n) s = (saidL (setErr i j n s.2.length), bSet s i j n) := by
  have hc : cutL 32 (setT i j n) = [kSet, Lib.decDigits i, Lib.decDigits j, Lib.decDigits n] := by
    unfold setT
    rw [cutL_app _ (by decide), cutL_app _ (dd_noByte rfl i), cutL_app _ (dd_noByte rfl j), cutL_free (dd_noByte rfl n)]
  unfold answerE
  rw [hc]
  simp only [nums7, num7_dd (show i < 10000 by omega), num7_dd (show j < 10000 by omega), num7_dd (show n < 10000 by omega)]
  rw [cmdE_3, if_pos rfl]
theorem answer_get {i j : Nat} (hi : i ≤ 3) (hj : j ≤ 3) (s : BS) : answerE (getT i j) s = (Lib.decDigits (fn s.1 i j).toNat, s) := by
  have hc : cutL 32 (getT i j) = [kGet, Lib.decDigits i, Lib.decDigits j] := by
    unfold getT
    rw [cutL_app _ (by decide), cutL_app _ (dd_noByte rfl i), cutL_free (dd_noByte rfl j)]
  unfold answerE
  rw [hc]
  simp only [nums7, num7_dd (show i < 10000 by omega), num7_dd (show j < 10000 by omega)]
  rw [cmdE_2, if_pos rfl, if_neg (by omega)]
theorem answer_det (s : BS) : answerE kDet s = (Lib.decDigits (G_det s.1).toNat, s) := by
  have hc : cutL 32 kDet = [kDet] := cutL_free (by decide)
  unfold answerE
  rw [hc]
  simp only [nums7]
  rw [cmdE_0, if_pos rfl]
theorem answer_crash {s : BS} (h : DeskOk s) : answerE crashT s = (kFound ++ Lib.decDigits s.2.length, s) := by
  have hc : cutL 32 crashT = [kCrash, [57, 57, 57, 57, 57, 57, 57]] := by decide
  have hn : num7 [57, 57, 57, 57, 57, 57, 57] = some 9999999 := by decide
  unfold answerE
  rw [hc]
  simp only [nums7, hn]
  obtain ⟨s', h1, h2, h3, h4⟩ := h.crash 9999999
  have hsh := h.log.short
  obtain rfl := h4 (by rw [size_list]; omega)
  rw [cmdE_1, if_pos rfl, h1]
theorem setErr_in {i j n : Nat} (hi : i ≤ 3) (hj : j ≤ 3) (hn : n ≤ 9972) (L : Nat) : setErr i j n L = 0 ∨ setErr i j n L = 4 := by
  have hp : placeErr i j n = 0 := by
    unfold placeErr
    rw [if_neg]
    simp [outB]
    omega
  unfold setErr
  rw [if_neg (by omega)]
  split
  · exact Or.inr rfl
  · exact Or.inl rfl
/-- what is set is got, and got behind a crash -/
theorem keeps_all {t : List UInt8} (ht : t = [] ∨ t.getLast? = some 10) (hlen : t.length ≤ 2900) {i j n : Nat} (hi : i ≤ 3) (hj : j ≤ 3) (hn : n ≤ 9972) :
    ∃ a was b c : List UInt8, lastL (sessE (t ++ (setT i j n ++ [10]))) = a ∧ lastL (sessE (t ++ (getT i j ++ [10]))) = was ∧ lastL (sessE ((t ++ (setT i j n ++ [10])) ++ (getT i j ++ [10]))) = b ∧
      lastL (sessE (((t ++ (setT i j n ++ [10])) ++ (crashT ++ [10])) ++ (getT i j ++ [10]))) = c ∧
      ((a = kOk ++ [10] ∧ b = c ∧ b = Lib.decDigits n ++ [10]) ∨ (a = nameL 4 ++ [10] ∧ b = was ∧ c = was)) := by
  have hl1 := setT_len hi hj hn
  have hl2 := getT_len hi hj
  have hl3 : crashT.length = 13 := rfl
  have hz : DeskOk (sessR (slines t) (zeros4, [])).2 := DeskOk.sess _ DeskOk.zero
  obtain ⟨a1, a2⟩ := sess_one ht (setT_lf i j n) (by omega)
  obtain ⟨w1, w2⟩ := sess_one ht (getT_lf i j) (by omega)
  obtain ⟨b1, b2⟩ := sess_one (ends_lf t (setT i j n)) (getT_lf i j) (by simp; omega)
  obtain ⟨c1, c2⟩ := sess_one (ends_lf t (setT i j n)) crashT_lf (by simp; omega)
  obtain ⟨d1, d2⟩ := sess_one (ends_lf (t ++ (setT i j n ++ [10])) crashT) (getT_lf i j) (by simp; omega)
  rw [a2] at b1 c2
  rw [c2] at d1
  generalize (sessR (slines t) (zeros4, [])).2 = s at *
  rw [answer_set hi hj hn] at a1 b1 d1
  have hz2 : DeskOk (bSet s i j n) := hz.set _ _ _
  rw [answer_get hi hj] at w1 b1 d1
  simp only [answer_crash hz2] at d1
  refine ⟨_, _, _, _, a1, w1, b1, d1, ?_⟩
  rcases setErr_in hi hj hn s.2.length with he | he
  · refine Or.inl ⟨by rw [he]; rfl, rfl, ?_⟩
    rw [bSet_len he]
    simp only
    rw [fn_put hz.ok.sq (by omega) (by omega), if_pos (by simp)]
    simp
  · refine Or.inr ⟨by rw [he]; rfl, ?_, ?_⟩ <;> rw [show bSet s i j n = s from if_neg (by omega)]
/-- a crash changes nothing -/
theorem top_all {t : List UInt8} (ht : t = [] ∨ t.getLast? = some 10) (hlen : t.length ≤ 2900) {i j : Nat} (hi : i ≤ 3) (hj : j ≤ 3) :
    ∃ a c : List UInt8, lastL (sessE (t ++ (getT i j ++ [10]))) = a ∧ lastL (sessE ((t ++ (crashT ++ [10])) ++ (getT i j ++ [10]))) = a ∧ lastL (sessE (t ++ (kDet ++ [10]))) = c ∧ lastL (sessE ((t ++ (crashT ++ [10])) ++ (kDet ++ [10]))) = c ∧ 1 < a.length := by
  have hl2 := getT_len hi hj
  have hl3 : crashT.length = 13 := rfl
  have hl4 : kDet.length = 3 := rfl
  have hz : DeskOk (sessR (slines t) (zeros4, [])).2 := DeskOk.sess _ DeskOk.zero
  obtain ⟨w1, w2⟩ := sess_one ht (getT_lf i j) (by omega)
  obtain ⟨v1, v2⟩ := sess_one ht (l := kDet) (by decide) (by omega)
  obtain ⟨c1, c2⟩ := sess_one ht crashT_lf (by omega)
  obtain ⟨d1, d2⟩ := sess_one (ends_lf t crashT) (getT_lf i j) (by simp; omega)
  obtain ⟨e1, e2⟩ := sess_one (ends_lf t crashT) (l := kDet) (by decide) (by simp; omega)
  rw [c2] at d1 e1
  generalize (sessR (slines t) (zeros4, [])).2 = s at *
  simp only [answer_crash hz] at d1 e1
  rw [answer_get hi hj] at w1 d1
  rw [answer_det] at v1 e1
  refine ⟨_, _, w1, d1, v1, e1, ?_⟩
  have := List.length_pos_iff.2 (dd_spec (fn s.1 i j).toNat).1
  simp
  omega
/-- a session's beginning -/
theorem begins_all {t : List UInt8} {k : Nat} (hlen : t.length ≤ 3000) (hk : k ≤ t.length) (hb : k = 0 ∨ t.getD (k - 1) 0 = 10) : ∃ r, sessE t = sessE (t.take k) ++ r := by
  have e : slines t = slines (t.take k) ++ slines (t.drop k) := by
    conv => lhs; rw [← List.take_append_drop k t]
    refine slines_two _ _ _ (Nat.le_refl _) ?_
    rcases hb with rfl | hb
    · exact Or.inl rfl
    · by_cases h0 : k = 0
      · rw [h0]; exact Or.inl rfl
      · refine Or.inr ?_
        obtain ⟨m, rfl⟩ : ∃ m, k = m + 1 := ⟨k - 1, by omega⟩
        have hm : m < t.length := by omega
        rw [Nat.add_sub_cancel, List.getD_eq_getElem?_getD, List.getElem?_eq_getElem hm, Option.getD_some] at hb
        rw [List.take_add_one, List.getElem?_eq_getElem hm, Option.toList_some, List.getLast?_concat, hb]
  refine ⟨(sessR (slines (t.drop k)) (sessR (slines (t.take k)) (zeros4, [])).2).1, ?_⟩
  unfold sessE
  rw [if_neg (by omega), if_neg (by rw [List.length_take]; omega), e, sessR_two]
theorem lines_all {t : List UInt8} (hlen : t.length ≤ 3000) : (sessE t).count 10 = t.count 10 + (if t = [] ∨ t.getLast? = some 10 then 0 else 1) ∧ (sessE t = [] ∨ (sessE t).getLast? = some 10) := by
  unfold sessE
  rw [if_neg (by omega), sessR_count]
  exact ⟨slines_len _ t (Nat.le_refl _), sessR_last _ _⟩
end Go.Proofs.YtokneabcgmjhdaaGreatDoor

/- Contract of the statements' lastLine. -/
namespace Go.Proofs.YtokneabcgmjhdaaGreatDoor
open Go.RowKit
set_option linter.unusedVariables false
set_option linter.unusedSimpArgs false

theorem ext_drop (s : ByteArray) (k : Nat) : s.extract k s.size = ba (s.data.toList.drop k) := by
  apply ByteArray.ext
  apply Array.ext'
  show (s.extract k s.size).data.toList = _
  rw [Lib.extract_to_end]
theorem LastLine_any (s : ByteArray) (w : World) (hs : s.size ≤ 1000000) :
    Calls Tryz.prog 12 #[.string s] w fun e w' => e = .returned (.string (ba (lastL s.data.toList))) ∧ w = w' := by
  by_cases h0 : s.size = 0
  · have hs0 : s.data.toList = [] := List.eq_nil_of_length_eq_zero (by rw [size_list]; exact h0)
    rw [hs0]
    have h0i : ((s.size : Int) - 1) = -1 := by omega
    clear hs0 hs
    go_enter Tryz.func12, Tryz.ntmps12
    go_wp2_with fail
    go_loopg [3] 2 (fun g i wr => i = .int .i64 (-1) ∧ 1 < g ∧ wr = w)
    case atStart => exact ⟨by first | rfl | (rw [h0i]) | simp [h0], by omega, rfl⟩
    case round =>
      obtain ⟨rfl, hg, rfl⟩ := hrel
      go_wp2_with fail
      go_ret
      exact ⟨rfl, rfl⟩
  · obtain ⟨l, hl⟩ : ∃ l, l = s.data.toList := ⟨_, rfl⟩
    have HL := Lib.hid hl
    have hll : l.length = s.size := by rw [hl, size_list]
    obtain ⟨m, hm⟩ : ∃ m, s.size = m + 1 := ⟨s.size - 1, by omega⟩
    have HR := Lib.hid (show lastL l = l.drop (lastFrom l m) from by unfold lastL; rw [hll, hm]; rfl)
    have hmi : (s.size : Int) - 1 = (m : Int) := by omega
    have HE := Lib.hid (fun k => (show s.extract k (m + 1) = ba (l.drop k) from by rw [← hm, ext_drop s k, ← hl]))
    rw [← hl]
    clear hl hll h0
    go_enter Tryz.func12, Tryz.ntmps12
    go_wp2_with fail
    go_loopg [3] (m + 1) (fun g i wr => ∃ k : Nat, k ≤ m ∧ k < g ∧ i = .int .i64 k ∧ lastFrom l m = lastFrom l k ∧ wr = w)
    case atStart => exact ⟨m, Nat.le_refl _, by omega, by first | rfl | (rw [← hmi]; go_num) | (rw [hmi]), rfl, rfl⟩
    case round =>
      obtain ⟨k, hk, hg, rfl, hlf, rfl⟩ := hrel
      have HLF := Lib.hid hlf
      clear hlf
      by_cases hk0 : k = 0
      · subst hk0
        go_wp2_with fail
        go_ret
        rw [HR.out, HLF.out]
        exact ⟨by first | (rw [← HE.out]; rfl) | trace_state, rfl⟩
      · obtain ⟨j, rfl⟩ : ∃ j, k = j + 1 := ⟨k - 1, by omega⟩
        have hj : j < s.size := by omega
        have hj0 : (0 : Int) ≤ j := by omega
        have hji : (j : Int) < s.size := by omega
        have hjs : (j : Int) + 1 ≤ s.size := by omega
        have hj2 : ((j : Int) + 1) - 1 = j := by omega
        have hbk := byte_at (l := l) HL.out rfl hj
        by_cases hb : s[j]'hj = 10
        · have hbb : (((s[j]'hj).toNat : Int) != 10) = false := by rw [hb]; rfl
          have HF := Lib.hid (HLF.out.trans (show lastFrom l (j + 1) = j + 1 from by rw [lastFrom, if_pos (by rw [← hbk]; exact hb)]))
          clear hb hbk
          go_wp2_with fail
          go_ret
          rw [HR.out, HF.out]
          exact ⟨by first | (rw [← HE.out]; rfl) | trace_state, rfl⟩
        · have hbb : (((s[j]'hj).toNat : Int) != 10) = true := by
            rw [bne_iff_ne]
            intro e
            exact hb (UInt8.toNat_inj.1 (by show _ = 10; omega))
          have HF := Lib.hid (HLF.out.trans (show lastFrom l (j + 1) = lastFrom l j from by rw [lastFrom, if_neg (by rw [← hbk]; exact hb)]))
          clear hb hbk
          go_wp2_with fail
          go_roundg (j + 1)
          case measure => omega
          case rel => exact ⟨j, by omega, by omega, by go_num, HF.out, rfl⟩
theorem TopLast_any (s : ByteArray) (w : World) (hs : s.size ≤ 1000000) :
    Calls Tryz.prog 14 #[.string s] w fun e w' => e = .returned (.string (ba (lastL s.data.toList))) ∧ w = w' := by
  by_cases h0 : s.size = 0
  · have hs0 : s.data.toList = [] := List.eq_nil_of_length_eq_zero (by rw [size_list]; exact h0)
    rw [hs0]
    have h0i : ((s.size : Int) - 1) = -1 := by omega
    clear hs0 hs
    go_enter Tryz.func14, Tryz.ntmps14
    go_wp2_with fail
    go_loopg [3] 2 (fun g i wr => i = .int .i64 (-1) ∧ 1 < g ∧ wr = w)
    case atStart => exact ⟨by first | rfl | (rw [h0i]) | simp [h0], by omega, rfl⟩
    case round =>
      obtain ⟨rfl, hg, rfl⟩ := hrel
      go_wp2_with fail
      go_ret
      exact ⟨rfl, rfl⟩
  · obtain ⟨l, hl⟩ : ∃ l, l = s.data.toList := ⟨_, rfl⟩
    have HL := Lib.hid hl
    have hll : l.length = s.size := by rw [hl, size_list]
    obtain ⟨m, hm⟩ : ∃ m, s.size = m + 1 := ⟨s.size - 1, by omega⟩
    have HR := Lib.hid (show lastL l = l.drop (lastFrom l m) from by unfold lastL; rw [hll, hm]; rfl)
    have hmi : (s.size : Int) - 1 = (m : Int) := by omega
    have HE := Lib.hid (fun k => (show s.extract k (m + 1) = ba (l.drop k) from by rw [← hm, ext_drop s k, ← hl]))
    rw [← hl]
    clear hl hll h0
    go_enter Tryz.func14, Tryz.ntmps14
    go_wp2_with fail
    go_loopg [3] (m + 1) (fun g i wr => ∃ k : Nat, k ≤ m ∧ k < g ∧ i = .int .i64 k ∧ lastFrom l m = lastFrom l k ∧ wr = w)
    case atStart => exact ⟨m, Nat.le_refl _, by omega, by first | rfl | (rw [← hmi]; go_num) | (rw [hmi]), rfl, rfl⟩
    case round =>
      obtain ⟨k, hk, hg, rfl, hlf, rfl⟩ := hrel
      have HLF := Lib.hid hlf
      clear hlf
      by_cases hk0 : k = 0
      · subst hk0
        go_wp2_with fail
        go_ret
        rw [HR.out, HLF.out]
        exact ⟨by first | (rw [← HE.out]; rfl) | trace_state, rfl⟩
      · obtain ⟨j, rfl⟩ : ∃ j, k = j + 1 := ⟨k - 1, by omega⟩
        have hj : j < s.size := by omega
        have hj0 : (0 : Int) ≤ j := by omega
        have hji : (j : Int) < s.size := by omega
        have hjs : (j : Int) + 1 ≤ s.size := by omega
        have hj2 : ((j : Int) + 1) - 1 = j := by omega
        have hbk := byte_at (l := l) HL.out rfl hj
        by_cases hb : s[j]'hj = 10
        · have hbb : (((s[j]'hj).toNat : Int) != 10) = false := by rw [hb]; rfl
          have HF := Lib.hid (HLF.out.trans (show lastFrom l (j + 1) = j + 1 from by rw [lastFrom, if_pos (by rw [← hbk]; exact hb)]))
          clear hb hbk
          go_wp2_with fail
          go_ret
          rw [HR.out, HF.out]
          exact ⟨by first | (rw [← HE.out]; rfl) | trace_state, rfl⟩
        · have hbb : (((s[j]'hj).toNat : Int) != 10) = true := by
            rw [bne_iff_ne]
            intro e
            exact hb (UInt8.toNat_inj.1 (by show _ = 10; omega))
          have HF := Lib.hid (HLF.out.trans (show lastFrom l (j + 1) = lastFrom l j from by rw [lastFrom, if_neg (by rw [← hbk]; exact hb)]))
          clear hb hbk
          go_wp2_with fail
          go_roundg (j + 1)
          case measure => omega
          case rel => exact ⟨j, by omega, by omega, by go_num, HF.out, rfl⟩
end Go.Proofs.YtokneabcgmjhdaaGreatDoor

/- The table of commands: a map from five words; what a word is found to be. -/
namespace Go.Proofs.YtokneabcgmjhdaaGreatDoor
open Go.RowKit Go.MapKept Go.ChangeMaps
set_option linter.unusedVariables false
set_option linter.unusedSimpArgs false

/-- a command's entry -/
abbrev cmdV (m : Int) (f : FuncId) : Value := .agg #[.int .i64 m, .func (.func f) #[] #[]]
def cmdE5 : List MapEntry := [⟨.string ⟨#[115, 101, 116]⟩, cmdV 3 42, 0⟩, ⟨.string ⟨#[97, 100, 100]⟩, cmdV 3 43, 1⟩, ⟨.string ⟨#[103, 101, 116]⟩, cmdV 2 44, 2⟩, ⟨.string ⟨#[100, 101, 116]⟩, cmdV 0 45, 3⟩, ⟨.string ⟨#[99, 114, 97, 115, 104]⟩, cmdV 1 46, 4⟩]
abbrev cmdO (k : Nat) : Obj := .map (cmdE5.take k).toArray k
theorem run_put {W : World} {B : Nat} {es : List MapEntry} {clock : Nat} (hb : W.heap[B]? = some (.map es.toArray clock)) (s : ByteArray) (v : Value) (h : Instr.findNow .string (.string s) es 0 = some none) :
    (Instr.mapUpdate 60 (.map (some B)) (.string s) v).run Tryz.prog W = .ok () (setBlock W B (.map (es ++ [(⟨.string s, v, clock⟩ : MapEntry)]).toArray (clock + 1))) := by
  have h1 : Instr.findNow .string (.string s) es.toArray.toList 0 = some none := h
  have hk : IsKey .string (.string s) := trivial
  simp [Instr.mapUpdate, run_underlying Tryz.underlying60, MapKept.run_getObj_map hb, run_checkKey Tryz.underlying9 hk, run_findKey Tryz.underlying9 h1, MapKept.run_setObj_map _ hb, Result.andThen, setBlock]
theorem run_put_k {W : World} {B k : Nat} (hb : W.heap[B]? = some (cmdO k)) (s : ByteArray) (v : Value) (hk : k < 5) (he : cmdE5[k]? = some ⟨.string s, v, k⟩) (h : Instr.findNow .string (.string s) (cmdE5.take k) 0 = some none) :
    (Instr.mapUpdate 60 (.map (some B)) (.string s) v).run Tryz.prog W = .ok () (setBlock W B (cmdO (k + 1))) := by
  rw [run_put hb s v h]
  unfold cmdO
  rw [List.take_add_one, he]
  rfl
theorem put_heap {W : World} {B k : Nat} (hb : W.heap[B]? = some (cmdO k)) : (setBlock W B (cmdO (k + 1))).heap[B]? = some (cmdO (k + 1)) := heap_setBlock_same hb _
theorem put_below {w W : World} {B : Nat} (o : Obj) (h : Below w.heap.size w W) (hB : w.heap.size ≤ B) : Below w.heap.size w (setBlock W B o) := by
  refine ⟨h.os, h.tape, h.output, ?_, fun k hk => ?_⟩
  · have := h.size
    show _ ≤ (W.heap.setIfInBounds B o).size
    rw [Array.size_setIfInBounds]
    exact this
  · show (W.heap.setIfInBounds B o)[k]? = _
    rw [Array.getElem?_setIfInBounds_ne (by omega)]
    exact h.block k hk
set_option maxRecDepth 100000 in
set_option maxHeartbeats 2000000 in
theorem Commands_any (w : World) : Calls Tryz.prog 27 #[] w fun e w' => ∃ r, e = .returned (.map (some r)) ∧ w.heap.size ≤ r ∧ w'.heap[r]? = some (cmdO 5) ∧ Below w.heap.size w w' := by
  have hmm := @run_makeMap Tryz.prog 60 w
  obtain ⟨B, hB⟩ : ∃ B, B = w.heap.size := ⟨_, rfl⟩
  obtain ⟨W0, h0⟩ : ∃ W0, W0 = w.alloc (.map #[] 0) := ⟨_, rfl⟩
  have b0 : W0.heap[B]? = some (cmdO 0) := by rw [h0, hB]; exact heap_alloc_new _ _
  have l0 : Below w.heap.size w W0 := by rw [h0]; exact (Below.refl _ _).alloc (Nat.le_refl _) _
  rw [← h0, ← hB] at hmm
  have r1 := run_put_k b0 ⟨#[115, 101, 116]⟩ (cmdV 3 42) (by decide) rfl rfl
  have b1 := put_heap b0
  have l1 := put_below (cmdO 1) l0 (B := B) (by omega)
  obtain ⟨W1, h1⟩ : ∃ W1, W1 = setBlock W0 B (cmdO (0 + 1)) := ⟨_, rfl⟩
  rw [← h1] at r1 b1 l1
  have r2 := run_put_k b1 ⟨#[97, 100, 100]⟩ (cmdV 3 43) (by decide) rfl rfl
  have b2 := put_heap b1
  have l2 := put_below (cmdO 2) l1 (B := B) (by omega)
  obtain ⟨W2, h2⟩ : ∃ W2, W2 = setBlock W1 B (cmdO (1 + 1)) := ⟨_, rfl⟩
  rw [← h2] at r2 b2 l2
  have r3 := run_put_k b2 ⟨#[103, 101, 116]⟩ (cmdV 2 44) (by decide) rfl rfl
  have b3 := put_heap b2
  have l3 := put_below (cmdO 3) l2 (B := B) (by omega)
  obtain ⟨W3, h3⟩ : ∃ W3, W3 = setBlock W2 B (cmdO (2 + 1)) := ⟨_, rfl⟩
  rw [← h3] at r3 b3 l3
  have r4 := run_put_k b3 ⟨#[100, 101, 116]⟩ (cmdV 0 45) (by decide) rfl rfl
  have b4 := put_heap b3
  have l4 := put_below (cmdO 4) l3 (B := B) (by omega)
  obtain ⟨W4, h4⟩ : ∃ W4, W4 = setBlock W3 B (cmdO (3 + 1)) := ⟨_, rfl⟩
  rw [← h4] at r4 b4 l4
  have r5 := run_put_k b4 ⟨#[99, 114, 97, 115, 104]⟩ (cmdV 1 46) (by decide) rfl rfl
  have b5 := put_heap b4
  have l5 := put_below (cmdO 5) l4 (B := B) (by omega)
  obtain ⟨W5, h5⟩ : ∃ W5, W5 = setBlock W4 B (cmdO (4 + 1)) := ⟨_, rfl⟩
  rw [← h5] at r5 b5 l5
  have HB5 := Lib.hid b5
  have HB := Lib.hid (show w.heap.size ≤ B by omega)
  clear h0 h1 h2 h3 h4 h5 b0 b1 b2 b3 b4 b5 l0 l1 l2 l3 l4 hB
  go_enter Tryz.func27, Tryz.ntmps27
  go_wp2_with fail
  go_ret
  exact ⟨B, rfl, HB.out, HB5.out, l5⟩

/-- what a word is found to be: how many numbers, the function, is it one -/
def cmdAt (s : ByteArray) : Value × Bool :=
  if s = ⟨#[115, 101, 116]⟩ then (cmdV 3 42, true)
  else if s = ⟨#[97, 100, 100]⟩ then (cmdV 3 43, true)
  else if s = ⟨#[103, 101, 116]⟩ then (cmdV 2 44, true)
  else if s = ⟨#[100, 101, 116]⟩ then (cmdV 0 45, true)
  else if s = ⟨#[99, 114, 97, 115, 104]⟩ then (cmdV 1 46, true)
  else (.agg #[.int .i64 0, .nilFunc], false)
theorem find_step (s : ByteArray) (t : ByteArray) (v : Value) (b i : Nat) (l : List MapEntry) : Instr.findNow .string (.string s) (⟨.string t, v, b⟩ :: l) i = if s = t then some (some (i, v)) else Instr.findNow .string (.string s) l (i + 1) := by
  obtain ⟨r, hr, hiff⟩ := sameNow_of_keys (d := .string) (a := .string s) (b := .string t) trivial trivial
  have hst : (Value.string s = .string t) ↔ s = t := by simp
  rw [Instr.findNow, hr]
  by_cases h : s = t
  · rw [if_pos h, hiff.2 (hst.2 h)]
  · have hf : r = false := by
      cases r with
      | false => rfl
      | true => exact absurd (hst.1 (hiff.1 rfl)) h
    rw [if_neg h, hf]
theorem zero_cmd (w : World) : (zeroValue 58).run Tryz.prog w = .ok (.agg #[.int .i64 0, .nilFunc]) w := by kernel_rfl
theorem run_look {W : World} {B : Nat} (hb : W.heap[B]? = some (cmdO 5)) (s : ByteArray) :
    (Instr.lookup 60 (.map (some B)) (.string s) true).run Tryz.prog W = .ok (.tuple #[(cmdAt s).1, .bool (cmdAt s).2]) W := by
  have hk : IsKey .string (.string s) := trivial
  have hb' : W.heap[B]? = some (.map cmdE5.toArray 5) := hb
  have key : ∀ a, Instr.findNow .string (.string s) cmdE5.toArray.toList 0 = some a → (match a with | some (_, v) => (v, true) | none => (Value.agg #[.int .i64 0, .nilFunc], false)) = cmdAt s → (Instr.lookup 60 (.map (some B)) (.string s) true).run Tryz.prog W = .ok (.tuple #[(cmdAt s).1, .bool (cmdAt s).2]) W := fun a h1 h2 => by
    rw [← h2]
    cases a with
    | none => simp [Instr.lookup, run_underlying Tryz.underlying60, MapKept.run_getObj_map hb', run_checkKey Tryz.underlying9 hk, run_findKey Tryz.underlying9 h1, Result.andThen, zero_cmd]
    | some p => simp [Instr.lookup, run_underlying Tryz.underlying60, MapKept.run_getObj_map hb', run_checkKey Tryz.underlying9 hk, run_findKey Tryz.underlying9 h1, Result.andThen, zero_cmd]
  have hf : Instr.findNow .string (.string s) cmdE5.toArray.toList 0 = Instr.findNow .string (.string s) cmdE5 0 := rfl
  rw [hf] at key
  unfold cmdE5 at key
  simp only [find_step] at key
  unfold cmdAt at key ⊢
  by_cases h1 : s = ⟨#[115, 101, 116]⟩
  · simp only [if_pos h1] at key ⊢; exact key _ rfl rfl
  · simp only [if_neg h1] at key ⊢
    by_cases h2 : s = ⟨#[97, 100, 100]⟩
    · simp only [if_pos h2] at key ⊢; exact key _ rfl rfl
    · simp only [if_neg h2] at key ⊢
      by_cases h3 : s = ⟨#[103, 101, 116]⟩
      · simp only [if_pos h3] at key ⊢; exact key _ rfl rfl
      · simp only [if_neg h3] at key ⊢
        by_cases h4 : s = ⟨#[100, 101, 116]⟩
        · simp only [if_pos h4] at key ⊢; exact key _ rfl rfl
        · simp only [if_neg h4] at key ⊢
          by_cases h5 : s = ⟨#[99, 114, 97, 115, 104]⟩
          · simp only [if_pos h5] at key ⊢; exact key _ rfl rfl
          · simp only [if_neg h5] at key ⊢; exact key _ rfl rfl
end Go.Proofs.YtokneabcgmjhdaaGreatDoor

/- A desk in memory: its block holds its book's address; what its work leaves alone. -/
namespace Go.Proofs.YtokneabcgmjhdaaGreatDoor
open Go.RowKit
set_option linter.unusedVariables false
set_option linter.unusedSimpArgs false

/-- a desk -/
structure DeskAt (w : World) (B D Bk G : Nat) (vs : List Value) (vl : Value) (s : BS) : Prop where
  le : B ≤ D
  box : w.heap[D]? = some (.cells #[.pointer (some ⟨Bk, 0, none⟩)] 33 (0, 0))
  book : BookAt w B Bk G vs vl s.1 s.2
/-- what a desk's work leaves alone -/
structure DKept (w w' : World) (D Bk : Nat) (vs : List Value) (vl : Value) : Prop where
  os : w'.os = w.os
  tape : w'.tape = w.tape
  output : w'.output = w.output
  size : w.heap.size ≤ w'.heap.size
  block : ∀ k, k < w.heap.size → k ≠ D → k ≠ Bk → vl.ownBlock ≠ some k → (∀ i, i < 4 → (vs.getD i undef).ownBlock ≠ some k) → w'.heap[k]? = w.heap[k]?
/-- what a desk's work makes of it -/
def DeskDone (w w' : World) (B D Bk : Nat) (vs : List Value) (vl : Value) (s : BS) : Prop :=
  (∃ Bk' G' vs' vl', DeskAt w' B D Bk' G' vs' vl' s ∧ ∀ b, vl'.ownBlock = some b → vl.ownBlock = some b ∨ w.heap.size ≤ b) ∧ DKept w w' D Bk vs vl
theorem DKept.of {w w' : World} (D Bk : Nat) (vs : List Value) (vl : Value) (h : Below w.heap.size w w') : DKept w w' D Bk vs vl := ⟨h.os, h.tape, h.output, h.size, fun k hk _ _ _ _ => h.block k hk⟩
theorem DKept.ofBook {w w' : World} (D : Nat) {Bk : Nat} {vs : List Value} {vl : Value} (h : BKept w w' Bk vs vl) : DKept w w' D Bk vs vl := ⟨h.os, h.tape, h.output, h.size, fun k hk _ h1 h2 h3 => h.block k hk h1 h2 h3⟩
theorem DKept.trans {w w1 w2 : World} {D Bk : Nat} {vs : List Value} {vl vl1 : Value} (h : DKept w w1 D Bk vs vl) (k : DKept w1 w2 D Bk vs vl1) (hl : ∀ b, vl1.ownBlock = some b → vl.ownBlock = some b ∨ w.heap.size ≤ b) : DKept w w2 D Bk vs vl := by
  refine ⟨k.os.trans h.os, k.tape.trans h.tape, k.output.trans h.output, Nat.le_trans h.size k.size, fun b hb h0 h1 h2 h3 => ?_⟩
  have h4 := h.size
  rw [k.block b (by omega) h0 h1 (fun e => by rcases hl b e with e2 | e2; exact h2 e2; omega) h3]
  exact h.block b hb h0 h1 h2 h3
theorem DKept.store {w : World} {D : Nat} (Bk : Nat) (vs : List Value) (vl : Value) (j : Nat) (u : Value) : DKept w (w.setCell ⟨D, j, none⟩ u) D Bk vs vl := by
  have hg := grown_setCell w D j u
  exact ⟨hg.os, hg.tape, hg.output, hg.size, fun k hk h0 _ _ _ => hg.block k hk fun e => h0 (Option.some.inj e)⟩
theorem DeskAt.lt {w : World} {B D Bk G : Nat} {vs : List Value} {vl : Value} {s : BS} (h : DeskAt w B D Bk G vs vl s) : D < w.heap.size := (Array.getElem?_eq_some_iff.1 h.box).1
theorem DeskAt.call {w w' : World} {B D Bk G : Nat} {vs : List Value} {vl : Value} {s : BS} (h : DeskAt w B D Bk G vs vl s) (hb : Below w.heap.size w w') : DeskAt w' B D Bk G vs vl s :=
  ⟨h.le, by rw [hb.block _ h.lt]; exact h.box, h.book.call hb⟩
theorem DeskAt.cell {w : World} {B D Bk G : Nat} {vs : List Value} {vl : Value} {s : BS} (h : DeskAt w B D Bk G vs vl s) : w.cell? ⟨D, 0, none⟩ = some (.pointer (some ⟨Bk, 0, none⟩)) ∧ w.frozen? ⟨D, 0, none⟩ = false :=
  ⟨by simp [World.cell?, h.box], by simp [World.frozen?, h.box]⟩
theorem DKept.below {w w' : World} {B D Bk G : Nat} {vs : List Value} {vl : Value} {s : BS} (k : DKept w w' D Bk vs vl) (h : DeskAt w B D Bk G vs vl s) : Below B w w' := by
  refine ⟨k.os, k.tape, k.output, k.size, fun b hb => ?_⟩
  have h0 := h.le
  have h1 := h.book.base
  have h2 := h.book.lt
  refine k.block b (by omega) (by omega) (by omega) (fun e => ?_) (fun i hi e => ?_)
  · have := (World.ownsRow.lt h.book.log b e).1; omega
  · have := (World.ownsRow.lt (h.book.own.2.2.1 i (by rw [h.book.sq.1]; exact hi)) b e).1; omega
theorem DeskDone.same {w w' : World} {B D Bk G : Nat} {vs : List Value} {vl : Value} {s : BS} (h : DeskAt w B D Bk G vs vl s) (hb : Below w.heap.size w w') : DeskDone w w' B D Bk vs vl s :=
  ⟨⟨Bk, G, vs, vl, h.call hb, fun b hb => Or.inl hb⟩, DKept.of _ _ _ _ hb⟩
/-- a desk's block is none of its book's -/
theorem DeskAt.apart {w : World} {B D Bk G : Nat} {vs : List Value} {vl : Value} {s : BS} (h : DeskAt w B D Bk G vs vl s) : D ≠ Bk ∧ vl.ownBlock ≠ some D ∧ ∀ i, i < 4 → (vs.getD i undef).ownBlock ≠ some D := by
  refine ⟨?_, own_tag h.book.log h.box (by decide), fun i hi => own_tag (h.book.own.2.2.1 i (by rw [h.book.sq.1]; exact hi)) h.box (by decide)⟩
  rintro rfl
  have h1 := h.book.box
  rw [h.box] at h1
  simp only [Option.some.injEq, Obj.cells.injEq] at h1
  exact absurd h1.2.1 (by decide)
/-- the book's work -/
theorem DeskDone.book {w w1 w' : World} {B D Bk G : Nat} {vs : List Value} {vl : Value} {s s' : BS} (h : DeskAt w B D Bk G vs vl s) (hb : Below w.heap.size w w1) (hd : BookDone w1 w' B Bk G vs vl s'.1 s'.2) : DeskDone w w' B D Bk vs vl s' := by
  obtain ⟨⟨vl', h1, h2⟩, h3⟩ := hd
  have h4 := h.call hb
  obtain ⟨a1, a2, a3⟩ := h4.apart
  have hs := hb.size
  refine ⟨⟨Bk, G, vs, vl', ⟨h.le, by rw [h3.block D h4.lt a1 a2 a3]; exact h4.box, h1⟩, fun b hb => ?_⟩, (DKept.of _ _ _ _ hb).trans (DKept.ofBook D h3) (fun b hb => Or.inl hb)⟩
  rcases h2 b hb with h | h
  · exact Or.inl h
  · exact Or.inr (by omega)
theorem DeskDone.later {w w1 w' : World} {B D Bk : Nat} {vs : List Value} {vl : Value} {s : BS} (h : DeskDone w w1 B D Bk vs vl s) (hb : Below w1.heap.size w1 w') : DeskDone w w' B D Bk vs vl s := by
  obtain ⟨⟨Bk', G', vs', vl', h1, h2⟩, h3⟩ := h
  have h4 := h3.size
  exact ⟨⟨Bk', G', vs', vl', h1.call hb, h2⟩, ⟨hb.os.trans h3.os, hb.tape.trans h3.tape, hb.output.trans h3.output, Nat.le_trans h3.size hb.size, fun k hk a b c d => (hb.block k (by omega)).trans (h3.block k hk a b c d)⟩⟩
theorem BookAt.otherD {w w' : World} {B Bk G X : Nat} {vs : List Value} {vl : Value} {rows : List (List Int)} {lines : List ByteArray} {cs : Array Value} {f : Nat × Nat} (h : BookAt w B Bk G vs vl rows lines) (hX : w.heap[X]? = some (.cells cs 33 f)) (hg : w.grownBy w' (some X)) : BookAt w' B Bk G vs vl rows lines := by
  refine ⟨h.base, ?_, h.own.keptBy hg (own_tag h.own.1 hX (by decide)) (fun i hi => own_tag (h.own.2.2.1 i hi) hX (by decide)), World.ownsRow.kept h.log hg (Or.inr (own_tag h.log hX (by decide))), h.sq, h.ent⟩
  rw [hg.block Bk h.lt ?_]
  · exact h.box
  · intro e
    cases e
    have := h.box
    rw [hX] at this
    simp only [Option.some.injEq, Obj.cells.injEq] at this
    exact absurd this.2.1 (by decide)
/-- another book on the desk -/
theorem DeskDone.swap {w w1 : World} {B D Bk G Bk' G' : Nat} {vs vs' : List Value} {vl vl' : Value} {s s' : BS} (h : DeskAt w B D Bk G vs vl s) (hBw : B ≤ w.heap.size) (hb : Below w.heap.size w w1) (hn : BookAt w1 w.heap.size Bk' G' vs' vl' s'.1 s'.2) :
    DeskDone w (w1.setCell ⟨D, 0, none⟩ (.pointer (some ⟨Bk', 0, none⟩))) B D Bk vs vl s' := by
  have h4 := h.call hb
  have hg := grown_setCell w1 D 0 (.pointer (some ⟨Bk', 0, none⟩))
  refine ⟨⟨Bk', G', vs', vl', ⟨h.le, ?_, (hn.otherD h4.box hg).mono hBw⟩, fun b hb => Or.inr (World.ownsRow.lt hn.log b hb).1⟩, (DKept.of _ _ _ _ hb).trans (DKept.store Bk vs vl 0 _) (fun b hb => Or.inl hb)⟩
  show (w1.heap.modify D _)[D]? = _
  rw [Array.getElem?_modify, if_pos rfl, h4.box]
  rfl
/-- blocks of other kinds stand -/
theorem DKept.tag {w w' : World} {B D Bk G k : Nat} {vs : List Value} {vl : Value} {s : BS} {cs : Array Value} {T : TypeId} {f : Nat × Nat} (h : DKept w w' D Bk vs vl) (hd : DeskAt w B D Bk G vs vl s) (hk : w.heap[k]? = some (.cells cs T f))
    (h1 : T ≠ 33) (h2 : T ≠ 54) (h3 : T ≠ 9) (h4 : T ≠ 3) : w'.heap[k]? = some (.cells cs T f) := by
  have key : ∀ (x : Nat) (c : Array Value) (t : TypeId) (fr : Nat × Nat), w.heap[x]? = some (.cells c t fr) → T ≠ t → k ≠ x := fun x c t fr hx hT e => by
    rw [← e, hk] at hx
    simp only [Option.some.injEq, Obj.cells.injEq] at hx
    exact hT hx.2.1
  rw [h.block k (Array.getElem?_eq_some_iff.1 hk).1 (key _ _ _ _ hd.box h1) (key _ _ _ _ hd.book.box h2) (own_tag hd.book.log hk (fun e => h3 e.symm)) (fun i hi => own_tag (hd.book.own.2.2.1 i (by rw [hd.book.sq.1]; exact hi)) hk (fun e => h4 e.symm))]
  exact hk
theorem ownF_same {w w' : World} {B : Nat} {e : TypeId} {v : Value} {n : Nat} {xs : List Value} (h : w.ownsRowF B e 1 v n xs) (hb : ∀ (b : Nat) (c : Array Value) (f : Nat × Nat), w.heap[b]? = some (Obj.cells c e f) → w'.heap[b]? = some (Obj.cells c e f)) : w'.ownsRowF B e 1 v n xs := by
  refine ⟨h.1, ?_⟩
  rcases h.2 with h | ⟨g, cap, cur, fz, e1, hg, hb2, h3⟩
  · exact Or.inl h
  · exact Or.inr ⟨g, cap, cur, fz, e1, hg, hb _ _ _ hb2, h3⟩
/-- the builder stands beside a desk's work -/
theorem builder_kept {w w' : World} {B B' D Bk G b : Nat} {vs : List Value} {vl : Value} {s : BS} {bs : List Value} (h : DKept w w' D Bk vs vl) (hd : DeskAt w B D Bk G vs vl s) (hI : Lib.IsBuilderF 37 5 B' b bs w) :
    Lib.IsBuilderF 37 5 B' b bs w' := by
  have key : ∀ p, Lib.BuilderAtF 37 5 B' b p bs w → Lib.BuilderAtF 37 5 B' b p bs w' := fun p hp => by
    obtain ⟨h1, v, h2, h3, h4⟩ := hp
    exact ⟨h1, v, h.tag hd h2 (by decide) (by decide) (by decide) (by decide), ownF_same h3 (fun b c f hb => h.tag hd hb (by decide) (by decide) (by decide) (by decide)), h4⟩
  exact hI.elim (fun x => Or.inl (key _ x)) (fun x => Or.inr (key _ x))
theorem builder_below {w w' : World} {B' b : Nat} {bs : List Value} (hI : Lib.IsBuilderF 37 5 B' b bs w) (hb : Below w.heap.size w w') : Lib.IsBuilderF 37 5 B' b bs w' := by
  have hk : ∀ k o, w.heap[k]? = some o → w'.heap[k]? = some o := fun k o h => (hb.block k (Array.getElem?_eq_some_iff.1 h).1).trans h
  have key : ∀ p, Lib.BuilderAtF 37 5 B' b p bs w → Lib.BuilderAtF 37 5 B' b p bs w' := fun p hp => by
    obtain ⟨h1, v, h2, h3, h4⟩ := hp
    exact ⟨h1, v, hk _ _ h2, ownF_same h3 (fun b c f hb => hk _ _ hb), h4⟩
  exact hI.elim (fun x => Or.inl (key _ x)) (fun x => Or.inr (key _ x))
/-- the desk stands beside the builder's work -/
theorem DeskAt.beside {w w' : World} {B D Bk G b : Nat} {vs : List Value} {vl : Value} {s : BS} (h : DeskAt w B D Bk G vs vl s) (hk : Lib.OthersKept 5 (some b) w w') (hb : ∃ (c : Array Value) (f : Nat × Nat), w.heap[b]? = some (Obj.cells c 37 f)) : DeskAt w' B D Bk G vs vl s := by
  obtain ⟨cb, fb, hbx⟩ := hb
  have kk : ∀ (k : Nat) (c : Array Value) (t : TypeId) (f : Nat × Nat), w.heap[k]? = some (Obj.cells c t f) → t ≠ 5 → t ≠ 37 → w'.heap[k]? = some (Obj.cells c t f) := fun k c t f h1 h2 h3 => by
    refine hk k _ h1 (fun e => ?_) (fun c' f' e => ?_)
    · cases e
      rw [hbx] at h1
      simp only [Option.some.injEq, Obj.cells.injEq] at h1
      exact h3 h1.2.1.symm
    · simp only [Obj.cells.injEq] at e
      exact h2 e.2.1
  have ks : ∀ (A : Nat) (e : TypeId) (v : Value) (n : Nat) (xs : List Value), w.ownsRow A e 1 v n xs → e ≠ 5 → e ≠ 37 → w'.ownsRow A e 1 v n xs := fun A e v n xs h1 h2 h3 => by
    refine ⟨h1.1, ?_⟩
    rcases h1.2 with h | ⟨g, cap, cur, e1, hg, hb2, h4⟩
    · exact Or.inl h
    · exact Or.inr ⟨g, cap, cur, e1, hg, kk _ _ _ _ hb2 h2 h3, h4⟩
  refine ⟨h.le, kk _ _ _ _ h.box (by decide) (by decide), ⟨h.book.base, kk _ _ _ _ h.book.box (by decide) (by decide), ⟨ks _ _ _ _ _ h.book.own.1 (by decide) (by decide), h.book.own.2.1, fun i hi => ks _ _ _ _ _ (h.book.own.2.2.1 i hi) (by decide) (by decide), h.book.own.2.2.2⟩, ks _ _ _ _ _ h.book.log (by decide) (by decide), h.book.sq, h.book.ent⟩⟩
end Go.Proofs.YtokneabcgmjhdaaGreatDoor

/- Contract of desk's number: a number of seven digits at most. -/
namespace Go.Proofs.YtokneabcgmjhdaaGreatDoor
open Go.RowKit
set_option linter.unusedVariables false
set_option linter.unusedSimpArgs false

theorem num7_none {l : List UInt8} (h : numL l = none) : num7 l = none := by
  unfold num7
  split
  · exact h
  · rfl
theorem num7_short {l : List UInt8} (h : l.length ≤ 7) : num7 l = numL l := if_pos h
theorem num7_long {l : List UInt8} (h : 7 < l.length) : num7 l = none := if_neg (by omega)
set_option maxRecDepth 100000 in
set_option maxHeartbeats 1000000 in
theorem DNumber_any (s : ByteArray) (B : Nat) (w : World) (hG : Glob B w) (hBw : B ≤ w.heap.size) (hs : s.size ≤ 100000) :
    Calls Tryz.prog 28 #[.string s] w fun e w' => (∃ v : Int, e = .returned (.tuple #[.int .i64 v, .bool (num7 s.data.toList).isSome]) ∧ ∀ n, num7 s.data.toList = some n → v = n) ∧ Below w.heap.size w w' := by
  by_cases h0 : s.data.toList = []
  · have hA : s.toList.isEmpty = true := by rw [toList_data', h0]; rfl
    have hN : num7 s.data.toList = none := by rw [h0]; rfl
    rw [hN]
    clear h0 hN
    go_enter Tryz.func28, Tryz.ntmps28
    go_wp2_with fail
    go_ret2
    exact ⟨⟨0, rfl, fun n h => by cases h⟩, Below.refl _ _⟩
  · have hA : s.toList.isEmpty = false := by
      rw [toList_data']
      cases hh : s.data.toList with
      | nil => exact absurd hh h0
      | cons a b => rfl
    have hp0 : 0 < s.size := by
      rw [← size_list]
      exact List.length_pos_iff.2 h0
    have hhd : s.data.toList.head? = some (s[0]'hp0) := by
      rw [List.head?_eq_getElem?, byte_at rfl rfl hp0, List.getD_eq_getElem?_getD]
      rw [List.getElem?_eq_getElem (by rw [size_list]; exact hp0)]
      rfl
    by_cases h7 : 7 < s.size
    · have h7i : (7 : Int) < s.size := by omega
      have hN : num7 s.data.toList = none := num7_long (by rw [size_list]; exact h7)
      rw [hN]
      clear hN hhd h0
      go_enter Tryz.func28, Tryz.ntmps28
      go_wp2_with fail
      go_ret2
      exact ⟨⟨0, rfl, fun n h => by cases h⟩, Below.refl _ _⟩
    have h7i : ¬ (7 : Int) < s.size := by omega
    rw [num7_short (by rw [size_list]; omega)]
    by_cases hlz : 1 < s.size ∧ s[0]'hp0 = 48
    · obtain ⟨hl, hz⟩ := hlz
      have hli : (1 : Int) < s.size := by omega
      have hN : numL s.data.toList = none := by
        unfold numL
        rw [if_neg]
        rintro ⟨hp, _⟩
        exact (plain_spec.1 hp).2.1 (by rw [size_list]; exact hl) (by rw [hhd, hz])
      rw [hN]
      clear hN hhd h0
      go_enter Tryz.func28, Tryz.ntmps28
      go_wp2_with fail
      go_ret2
      first | exact ⟨⟨0, rfl, fun n h => by cases h⟩, Below.refl _ _⟩ | exact ⟨⟨0, rfl⟩, Below.refl _ _⟩
    · have hnum : (∀ b ∈ s.data.toList, isDig b = true) → plainL s.data.toList = true := fun hd => plain_spec.2 ⟨h0, fun h1 h2 => hlz ⟨by rw [← size_list]; exact h1, by rw [hhd] at h2; exact Option.some.inj h2⟩, hd⟩
      have hg : (¬ (1 : Int) < s.size) ∨ ((1 : Int) < s.size ∧ (((s[0]'hp0).toNat : Int) == 48) = false) := by
        by_cases hl : 1 < s.size
        · refine Or.inr ⟨by omega, ?_⟩
          have : s[0]'hp0 ≠ 48 := fun h => hlz ⟨hl, h⟩
          have h2 : (s[0]'hp0).toNat ≠ 48 := fun h => this (UInt8.toNat_inj.1 h)
          have h3 : ((s[0]'hp0).toNat : Int) ≠ 48 := by omega
          simpa using h3
        · exact Or.inl (by omega)
      have HTR := Lib.hid (Trim_digits s w hs)
      have HAT := Lib.hid (fun W (h : Below w.heap.size w W) hd => Atoi_digits s B W (hG.above hBw h) (Nat.le_trans hBw h.size) hs h0 hd)
      have HNU := Lib.hid hnum
      have hnn : (¬ ∀ b ∈ s.data.toList, isDig b = true) → numL s.data.toList = none := fun h => by
        unfold numL
        rw [if_neg]
        rintro ⟨hp, _⟩
        exact h (plain_spec.1 hp).2.2
      have hns : (∀ b ∈ s.data.toList, isDig b = true) → numL s.data.toList = if valF 0 s.data.toList < 9223372036854775808 then some (valF 0 s.data.toList) else none := fun h => by
        unfold numL
        rw [hnum h]
        simp
      have HNN := Lib.hid hnn
      have HNS := Lib.hid hns
      clear hhd h0 hlz hnum hG hnn hns
      rcases hg with hg | ⟨hg, hgb⟩
      all_goals
        go_enter Tryz.func28, Tryz.ntmps28
        go_wp2_with fail
        go_at_call 47
        refine HTR.out.mono ?_
        rintro e w1 ⟨⟨x, rfl, hx⟩, hb1⟩
        by_cases hd : ∀ b ∈ s.data.toList, isDig b = true
        · obtain rfl := hx.2 hd
          have hE : (⟨([] : List UInt8).toArray⟩ : ByteArray).toList.isEmpty = true := by rw [toList_data']; rfl
          have hA2 := HAT.out w1 hb1 hd
          have HV := Lib.hid (HNS.out hd)
          clear hx HNU HNN HNS HTR HAT hd
          go_wp2_with fail
          go_at_call 48
          refine hA2.mono ?_
          rintro e w2 ⟨⟨v, t, rfl, h1, h2⟩, hb2⟩
          have hbb := below_trans hb1 hb2
          by_cases hv : valF 0 s.data.toList < 9223372036854775808
          · obtain ⟨rfl, rfl⟩ := h1 hv
            have HV2 := Lib.hid (HV.out.trans (if_pos hv))
            clear h1 h2 hv HV hA2
            generalize valF 0 s.data.toList = V at *
            go_wp2_with fail
            refine wp_region_quiet (C := Cls w2.heap.size w2) (by kernel_rfl) (by kernel_rfl) Cls.start ?_
            repeat
              (refine wpQuiet_step (fun K hK => ?_)
               go_simp
               first
                 | (refine hK _ ?_; clear hK K)
                 | (apply Exists.intro
                    refine ⟨fun w' hC => ?_, hK _ ?_⟩
                    · (obtain ⟨hr, hr2⟩ := hC.rules
                       first
                         | (fail)
                         | (go_simp; done)
                         | (go_simp; rfl))
                    clear hK K))
            refine wpQuiet_nil ?_
            intro w3 hw3
            go_wp2_with fail
            go_ret2
            rw [HV2.out]
            exact ⟨⟨_, rfl, fun n h => by cases h; rfl⟩, below_trans hbb hw3⟩
          · obtain ⟨te, pe, rfl⟩ := h2 (by omega)
            have HV2 := Lib.hid (HV.out.trans (if_neg hv))
            clear h1 h2 hv HV hA2
            go_wp2_with fail
            refine wp_region_quiet (C := Cls w2.heap.size w2) (by kernel_rfl) (by kernel_rfl) Cls.start ?_
            repeat
              (refine wpQuiet_step (fun K hK => ?_)
               go_simp
               first
                 | (refine hK _ ?_; clear hK K)
                 | (apply Exists.intro
                    refine ⟨fun w' hC => ?_, hK _ ?_⟩
                    · (obtain ⟨hr, hr2⟩ := hC.rules
                       first
                         | (fail)
                         | (go_simp; done)
                         | (go_simp; rfl))
                    clear hK K))
            refine wpQuiet_nil ?_
            intro w3 hw3
            go_wp2_with fail
            go_ret2
            rw [HV2.out]
            exact ⟨⟨_, rfl, fun n h => by cases h⟩, below_trans hbb hw3⟩
        · have hxe : x ≠ [] := fun e => hd (hx.1 e)
          obtain ⟨y, z, rfl⟩ := List.exists_cons_of_ne_nil hxe
          have hE : (y :: z).isEmpty = false := rfl
          have HV := Lib.hid (HNN.out hd)
          clear hx HNU HNN HNS HTR HAT hd hxe
          go_wp2_with fail
          go_ret2
          rw [HV.out]
          exact ⟨⟨0, rfl, fun n h => by cases h⟩, hb1⟩
end Go.Proofs.YtokneabcgmjhdaaGreatDoor

/- Contracts of the errors' names: api.Errno's Error, desk's name, the reference's called. -/
namespace Go.Proofs.YtokneabcgmjhdaaGreatDoor
open Go.RowKit
set_option linter.unusedVariables false
set_option linter.unusedSimpArgs false

theorem Errno_name (x : Int) (h1 : 1 ≤ x) (h7 : x ≤ 7) (w : World) :
    Calls Tryz.prog 50 #[.int .i64 x] w fun e w' => e = .returned (.string (ba (nameL x))) ∧ w = w' := by
  have h : x = 1 ∨ x = 2 ∨ x = 3 ∨ x = 4 ∨ x = 5 ∨ x = 6 ∨ x = 7 := by omega
  clear h1 h7
  rcases h with rfl | rfl | rfl | rfl | rfl | rfl | rfl
  all_goals
    go_enter Tryz.func50, Tryz.ntmps50
    go_wp2_with fail
    go_ret
    exact ⟨rfl, rfl⟩
set_option maxHeartbeats 4000000 in
theorem Name_any (x : Int) (h1 : 1 ≤ x) (h7 : x ≤ 7) (w : World) (hg : Handle w) :
    Calls Tryz.prog 29 #[.iface 80 (.int .i64 x)] w fun e w' => e = .returned (.string (ba (nameL x))) ∧ Below w.heap.size w w' := by
  have HG := Lib.hid hg
  have HN := Lib.hid (Errno_name x h1 h7)
  clear hg h1 h7
  go_enter Tryz.func29, Tryz.ntmps29
  go_wp2_with fail
  go_at_call 49
  refine (as_hit x _ (.int .i64 0) _ (HG.out.call ((Below.refl _ w).alloc (Nat.le_refl _) _)) (by go_simp) (by go_simp)).mono ?_
  rintro e w1 ⟨rfl, rfl⟩
  go_wp2_with fail
  go_at_call 50
  refine (HN.out _).mono ?_
  rintro e w1 ⟨rfl, rfl⟩
  go_wp2_with fail
  go_ret
  exact ⟨rfl, (((((Below.refl _ w).alloc (Nat.le_refl _) _).alloc (by simp) _).alloc (by simp; omega) _).alloc (by simp; omega) _).alloc (by simp; omega) _⟩
theorem RCalled_any (x : Int) (h0 : 0 ≤ x) (h7 : x ≤ 7) (w : World) :
    Calls Tryz.prog 33 #[.int .i64 x] w fun e w' => e = .returned (.string (ba (saidL x))) ∧ w = w' := by
  by_cases hx : x = 0
  · subst hx
    clear h0 h7
    go_enter Tryz.func33, Tryz.ntmps33
    go_wp2_with fail
    go_ret
    exact ⟨rfl, rfl⟩
  · have HN := Lib.hid (Errno_name x (by omega) h7)
    have hxb : (x == 0) = false := by simp [hx]
    have HS := Lib.hid (show saidL x = nameL x from if_neg hx)
    clear h0 h7 hx
    go_enter Tryz.func33, Tryz.ntmps33
    go_wp2_with fail
    go_at_call 50
    refine (HN.out _).mono ?_
    rintro e w1 ⟨rfl, rfl⟩
    go_wp2_with fail
    go_ret
    rw [HS.out]
    exact ⟨rfl, rfl⟩
end Go.Proofs.YtokneabcgmjhdaaGreatDoor

/- Plain: a session's line, cut into its word and its numbers. -/
namespace Go.Proofs.YtokneabcgmjhdaaGreatDoor
open Go.RowKit
set_option linter.unusedVariables false
set_option linter.unusedSimpArgs false

theorem DeskDone.since {w w1 w' : World} {B D Bk : Nat} {vs : List Value} {vl : Value} {s : BS} (hb : Below w.heap.size w w1) (h : DeskDone w1 w' B D Bk vs vl s) : DeskDone w w' B D Bk vs vl s := by
  obtain ⟨⟨Bk', G', vs', vl', h1, h2⟩, h3⟩ := h
  have hs := hb.size
  refine ⟨⟨Bk', G', vs', vl', h1, fun b hb => ?_⟩, (DKept.of _ _ _ _ hb).trans h3 (fun b hb => Or.inl hb)⟩
  rcases h2 b hb with h | h
  · exact Or.inl h
  · exact Or.inr (by omega)
theorem box_store2 {W : World} {b : Nat} {x y a b' : Value} {t : TypeId} {fr : Nat × Nat} (h : W.heap[b]? = some (.cells #[x, y] t fr)) : ((W.setCell ⟨b, 0, none⟩ a).setCell ⟨b, 1, none⟩ b').heap[b]? = some (.cells #[a, b'] t fr) := by
  have h1 : ∀ (W : World) (p q v : Value) (i : Nat), W.heap[b]? = some (.cells #[p, q] t fr) → (W.setCell ⟨b, i, none⟩ v).heap[b]? = some (.cells (#[p, q].setIfInBounds i v) t fr) := fun W p q v i h => by
    show (W.heap.modify b _)[b]? = _
    rw [Array.getElem?_modify, if_pos rfl, h]
    rfl
  exact h1 _ a y b' 1 (h1 W x y a 0 h)
/-- the number of piece j + 1 -/
def nv (ps : List (List UInt8)) (j : Nat) : Nat := (num7 (ps.getD (j + 1) [])).getD 0
def nvs (ps : List (List UInt8)) (k : Nat) : List Nat := (List.range k).map (nv ps)
def nvI (ps : List (List UInt8)) (k : Nat) : List Int := (nvs ps k).map fun n : Nat => (n : Int)
theorem nvI_snoc (ps : List (List UInt8)) (k : Nat) : nvI ps (k + 1) = nvI ps k ++ [(nv ps k : Int)] := by
  unfold nvI nvs
  rw [List.range_succ, List.map_append, List.map_append]
  rfl
theorem nvI_len (ps : List (List UInt8)) (k : Nat) : (nvI ps k).length = k := by simp [nvI, nvs]
theorem nums7_all : ∀ qs : List (List UInt8), (∀ j, j < qs.length → (num7 (qs.getD j [])).isSome = true) → nums7 qs = some ((List.range qs.length).map fun j => (num7 (qs.getD j [])).getD 0)
  | [], _ => rfl
  | p :: r, h => by
    have h0 := h 0 (by simp)
    have hr := nums7_all r (fun j hj => by have := h (j + 1) (by simpa using hj); simpa [List.getD] using this)
    simp only [List.getD, List.getElem?_cons_zero, Option.getD_some] at h0
    obtain ⟨n, hn⟩ := Option.isSome_iff_exists.1 h0
    rw [nums7, hn]
    simp only
    rw [hr]
    simp only
    rw [List.length_cons, List.range_succ_eq_map, List.map_cons, List.map_map]
    simp [List.getD, hn]
theorem nums7_bad : ∀ qs : List (List UInt8), (∃ j, j < qs.length ∧ num7 (qs.getD j []) = none) → nums7 qs = none
  | [], ⟨j, h, _⟩ => by simp at h
  | p :: r, ⟨j, h, e⟩ => by
    rw [nums7]
    cases hp : num7 p with
    | none => rfl
    | some n =>
      simp only
      cases j with
      | zero => simp [List.getD, hp] at e
      | succ j =>
        rw [nums7_bad r ⟨j, by simpa using h, by simpa [List.getD] using e⟩]
theorem nums7_len : ∀ (qs : List (List UInt8)) (ns : List Nat), nums7 qs = some ns → ns.length = qs.length
  | [], ns, h => by
    obtain rfl : ns = [] := (Option.some.inj h).symm
    rfl
  | p :: r, ns, h => by
    rw [nums7] at h
    cases hp : num7 p with
    | none => rw [hp] at h; cases h
    | some n =>
      rw [hp] at h
      simp only at h
      cases hr : nums7 r with
      | none => rw [hr] at h; cases h
      | some ms =>
        rw [hr] at h
        simp only at h
        obtain rfl := (Option.some.inj h).symm
        rw [List.length_cons, List.length_cons, nums7_len r ms hr]
/-- what a line is answered, by its pieces -/
def ansP (ps : List (List UInt8)) (s : BS) : List UInt8 × BS := match nums7 (ps.drop 1) with
  | none => (kBad, s)
  | some ns => cmdE (ps.getD 0 []) ns s
theorem answer_ansP (l : List UInt8) (s : BS) : answerE l s = ansP (cutL 32 l) s := by
  have hne := cutL_ne 32 l
  unfold answerE ansP
  cases hc : cutL 32 l with
  | nil => exact absurd hc hne
  | cons w ps => rfl
theorem ansP_bad {ps : List (List UInt8)} {n : Nat} (hn : ps.length = n + 1) (s : BS) (h : ∃ j, j < n ∧ num7 (ps.getD (j + 1) []) = none) : ansP ps s = (kBad, s) := by
  obtain ⟨j, hj, e⟩ := h
  unfold ansP
  rw [nums7_bad _ ⟨j, by rw [List.length_drop]; omega, by simpa [List.getD, List.getElem?_drop, Nat.add_comm] using e⟩]
theorem ansP_good {ps : List (List UInt8)} {n : Nat} (hn : ps.length = n + 1) (s : BS) (h : ∀ j, j < n → (num7 (ps.getD (j + 1) [])).isSome = true) : ansP ps s = cmdE (ps.getD 0 []) (nvs ps n) s := by
  have hl : (ps.drop 1).length = n := by rw [List.length_drop]; omega
  have hg : ∀ j, (ps.drop 1).getD j [] = ps.getD (j + 1) [] := fun j => by simp [List.getD, List.getElem?_drop, Nat.add_comm]
  unfold ansP
  rw [nums7_all _ (fun j hj => by rw [hg]; exact h j (by omega)), hl]
  simp only [hg]
  rfl
/-- a line whose word is none, or with another count of numbers -/
theorem cmdE_bad {w : List UInt8} {ns : List Nat} (s : BS) (h : ¬ (w = kSet ∧ ns.length = 3) ∧ ¬ (w = kAdd ∧ ns.length = 3) ∧ ¬ (w = kGet ∧ ns.length = 2) ∧ ¬ (w = kDet ∧ ns.length = 0) ∧ ¬ (w = kCrash ∧ ns.length = 1)) : cmdE w ns s = (kBad, s) := by
  obtain ⟨h1, h2, h3, h4, h5⟩ := h
  match ns with
  | [] => rw [cmdE_0, if_neg (fun e => h4 ⟨e, rfl⟩)]
  | [n] => rw [cmdE_1, if_neg (fun e => h5 ⟨e, rfl⟩)]
  | [i, j] => rw [cmdE_2, if_neg (fun e => h3 ⟨e, rfl⟩)]
  | [i, j, n] => rw [cmdE_3, if_neg (fun e => h1 ⟨e, rfl⟩), if_neg (fun e => h2 ⟨e, rfl⟩)]
  | _ :: _ :: _ :: _ :: _ => rw [cmdE_4]
theorem ansP_none {ps : List (List UInt8)} (hps : ps ≠ []) (s : BS) (h : ¬ (ps.getD 0 [] = kSet ∧ ps.length = 4) ∧ ¬ (ps.getD 0 [] = kAdd ∧ ps.length = 4) ∧ ¬ (ps.getD 0 [] = kGet ∧ ps.length = 3) ∧ ¬ (ps.getD 0 [] = kDet ∧ ps.length = 1) ∧ ¬ (ps.getD 0 [] = kCrash ∧ ps.length = 2)) : ansP ps s = (kBad, s) := by
  have hp := List.length_pos_iff.2 hps
  obtain ⟨h1, h2, h3, h4, h5⟩ := h
  unfold ansP
  cases hn : nums7 (ps.drop 1) with
  | none => rfl
  | some ns =>
    have hl := nums7_len _ _ hn
    rw [List.length_drop] at hl
    simp only
    exact cmdE_bad s ⟨fun h => h1 ⟨h.1, by omega⟩, fun h => h2 ⟨h.1, by omega⟩, fun h => h3 ⟨h.1, by omega⟩, fun h => h4 ⟨h.1, by omega⟩, fun h => h5 ⟨h.1, by omega⟩⟩
/-- which command a word is -/
inductive CmdIs : List UInt8 → Nat → Value → Bool → Prop
  | set : CmdIs kSet 3 (.func (.func 42) #[] #[]) true
  | add : CmdIs kAdd 3 (.func (.func 43) #[] #[]) true
  | get : CmdIs kGet 2 (.func (.func 44) #[] #[]) true
  | det : CmdIs kDet 0 (.func (.func 45) #[] #[]) true
  | crash : CmdIs kCrash 1 (.func (.func 46) #[] #[]) true
  | none (w : List UInt8) (h : w ≠ kSet ∧ w ≠ kAdd ∧ w ≠ kGet ∧ w ≠ kDet ∧ w ≠ kCrash) : CmdIs w 0 .nilFunc false
theorem cmd_is (w : List UInt8) : ∃ m f b, cmdAt (ba w) = (.agg #[.int .i64 (m : Nat), f], b) ∧ CmdIs w m f b := by
  have key : ∀ k : List UInt8, ba w = ba k ↔ w = k := fun k => ⟨ba_inj, fun h => by rw [h]⟩
  have e1 : ba w = ⟨#[115, 101, 116]⟩ ↔ w = kSet := key kSet
  have e2 : ba w = ⟨#[97, 100, 100]⟩ ↔ w = kAdd := key kAdd
  have e3 : ba w = ⟨#[103, 101, 116]⟩ ↔ w = kGet := key kGet
  have e4 : ba w = ⟨#[100, 101, 116]⟩ ↔ w = kDet := key kDet
  have e5 : ba w = ⟨#[99, 114, 97, 115, 104]⟩ ↔ w = kCrash := key kCrash
  unfold cmdAt
  by_cases h1 : w = kSet
  · rw [if_pos (e1.2 h1)]; subst h1; exact ⟨3, _, _, rfl, .set⟩
  · rw [if_neg (fun h => h1 (e1.1 h))]
    by_cases h2 : w = kAdd
    · rw [if_pos (e2.2 h2)]; subst h2; exact ⟨3, _, _, rfl, .add⟩
    · rw [if_neg (fun h => h2 (e2.1 h))]
      by_cases h3 : w = kGet
      · rw [if_pos (e3.2 h3)]; subst h3; exact ⟨2, _, _, rfl, .get⟩
      · rw [if_neg (fun h => h3 (e3.1 h))]
        by_cases h4 : w = kDet
        · rw [if_pos (e4.2 h4)]; subst h4; exact ⟨0, _, _, rfl, .det⟩
        · rw [if_neg (fun h => h4 (e4.1 h))]
          by_cases h5 : w = kCrash
          · rw [if_pos (e5.2 h5)]; subst h5; exact ⟨1, _, _, rfl, .crash⟩
          · rw [if_neg (fun h => h5 (e5.1 h))]; exact ⟨0, _, _, rfl, .none w ⟨h1, h2, h3, h4, h5⟩⟩
theorem CmdIs.form {w : List UInt8} {m : Nat} {f : Value} {b : Bool} (h : CmdIs w m f b) : (b = true ∧ ∃ k : FuncId, f = .func (.func k) #[] #[]) ∨ (b = false ∧ f = .nilFunc ∧ m = 0) := by
  cases h with
  | none => exact Or.inr ⟨rfl, rfl, rfl⟩
  | set => exact Or.inl ⟨rfl, _, rfl⟩
  | add => exact Or.inl ⟨rfl, _, rfl⟩
  | get => exact Or.inl ⟨rfl, _, rfl⟩
  | det => exact Or.inl ⟨rfl, _, rfl⟩
  | crash => exact Or.inl ⟨rfl, _, rfl⟩
theorem CmdIs.one {w : List UInt8} {m : Nat} {f : Value} {b : Bool} (h : CmdIs w m f b) : f.oneCell' = true := by cases h <;> rfl
theorem CmdIs.bd {w : List UInt8} {m : Nat} {f : Value} {b : Bool} (h : CmdIs w m f b) : m ≤ 3 := by cases h <;> omega
theorem CmdIs.no {ps : List (List UInt8)} {m : Nat} {f : Value} {b : Bool} (h : CmdIs (ps.getD 0 []) m f b) (hps : ps ≠ []) (hb : b = false ∨ ps.length ≠ m + 1) (s : BS) : ansP ps s = (kBad, s) := by
  refine ansP_none hps s ?_
  generalize ps.getD 0 [] = w at h
  cases h with
  | none w h => exact ⟨fun e => h.1 e.1, fun e => h.2.1 e.1, fun e => h.2.2.1 e.1, fun e => h.2.2.2.1 e.1, fun e => h.2.2.2.2 e.1⟩
  | set => exact ⟨fun e => by rcases hb with hb | hb; cases hb; exact hb e.2, fun e => absurd e.1 (by decide), fun e => absurd e.1 (by decide), fun e => absurd e.1 (by decide), fun e => absurd e.1 (by decide)⟩
  | add => exact ⟨fun e => absurd e.1 (by decide), fun e => by rcases hb with hb | hb; cases hb; exact hb e.2, fun e => absurd e.1 (by decide), fun e => absurd e.1 (by decide), fun e => absurd e.1 (by decide)⟩
  | get => exact ⟨fun e => absurd e.1 (by decide), fun e => absurd e.1 (by decide), fun e => by rcases hb with hb | hb; cases hb; exact hb e.2, fun e => absurd e.1 (by decide), fun e => absurd e.1 (by decide)⟩
  | det => exact ⟨fun e => absurd e.1 (by decide), fun e => absurd e.1 (by decide), fun e => absurd e.1 (by decide), fun e => by rcases hb with hb | hb; cases hb; exact hb e.2, fun e => absurd e.1 (by decide)⟩
  | crash => exact ⟨fun e => absurd e.1 (by decide), fun e => absurd e.1 (by decide), fun e => absurd e.1 (by decide), fun e => absurd e.1 (by decide), fun e => by rcases hb with hb | hb; cases hb; exact hb e.2⟩
theorem placeErr_01 (i j n : Int) : placeErr i j n = 0 ∨ placeErr i j n = 1 := by
  unfold placeErr
  split
  · exact Or.inr rfl
  · exact Or.inl rfl
theorem setErr_bd (i j n : Int) (L : Nat) : 0 ≤ setErr i j n L ∧ setErr i j n L ≤ 7 := by
  rcases placeErr_01 i j n with h | h
  · unfold setErr
    rw [if_neg (by omega)]
    split <;> omega
  · unfold setErr
    rw [if_pos (by omega), h]
    omega
theorem addErr_bd (i j n : Int) (L : Nat) : 0 ≤ addErr i j n L ∧ addErr i j n L ≤ 7 := by
  rcases placeErr_01 i j n with h | h
  · unfold addErr
    rw [if_neg (by omega)]
    split
    · omega
    · split <;> omega
  · unfold addErr
    rw [if_pos (by omega), h]
    omega
end Go.Proofs.YtokneabcgmjhdaaGreatDoor
