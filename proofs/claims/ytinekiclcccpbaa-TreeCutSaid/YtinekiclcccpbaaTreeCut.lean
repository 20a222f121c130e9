/- It proves that rankmerelaw4.TreeCut, called with any integer, any list of lists of integers and any integer, returns true, and leaves its arguments as they were. There are no conditions. -/
import Derived.Test.YtinekiclcccpbaaTreeFact
import Derived.Test.YtinekiclcccpbaaForest
import Derived.Test.YtinekiclcccpbaaTwo
import Derived.Test.YtinekiclcccpbaaOpen
import Derived.ProofKit
import Derived.OpenShut
import Derived.ShutString
import Derived.ChangeOld
import Derived.Lib.SmallJoins
namespace Go.Proofs.Ytinekiclcccpbaa.TreeCutP
open Go.ChangeShapes Go.WideShapes Go.ChangeAt Go.RowKit Go.Joins
open Go.ChangeMaps (open_string shut_string)
open Go.Proofs.Ytinekiclcccpbaa
set_option linter.unusedVariables false
set_option linter.unusedSimpArgs false

theorem treeErr_of {n : Int} {ps : List (List Int)} (h1 : 1 ≤ n) (h2 : n ≤ 6) (h3 : ps.length ≤ 15) (h4 : ∀ p ∈ ps, GoodP n p) : treeErr n ps = 0 := by
  unfold treeErr
  rw [if_neg (by simp [outB]; omega), if_neg (by omega)]
  refine pairsErr_zero (fun i hi => ?_)
  have e : ps.getD i [] = ps[i] := by simp [List.getD, hi]
  rw [e]
  exact h4 _ (List.getElem_mem hi)

/-- the pairs before i but the pair q -/
def leftTo (ps : List (List Int)) (q i : Nat) : List (List Int) := (ps.take i).eraseIdx q
theorem take_one {α : Type} (ps : List α) (d : α) {i : Nat} (hi : i < ps.length) : ps.take (i + 1) = ps.take i ++ [ps.getD i d] := by
  rw [List.take_add_one]; simp [List.getD, hi]
theorem leftTo_hit (ps : List (List Int)) (q : Nat) (hi : q < ps.length) : leftTo ps q (q + 1) = leftTo ps q q := by
  unfold leftTo
  rw [take_one ps [] hi, List.eraseIdx_append_of_length_le (by simp; omega)]
  have : q - (ps.take q).length = 0 := by simp; omega
  rw [this, List.eraseIdx_of_length_le (l := ps.take q) (by simp; omega)]
  simp
theorem leftTo_miss (ps : List (List Int)) (q i : Nat) (hi : i < ps.length) (h : i ≠ q) : leftTo ps q (i + 1) = leftTo ps q i ++ [ps.getD i []] := by
  unfold leftTo
  rw [take_one ps [] hi]
  by_cases hq : q < i
  · rw [List.eraseIdx_append_of_lt_length (by simp; omega)]
  · rw [List.eraseIdx_of_length_le (by simp; omega), List.eraseIdx_of_length_le (by simp; omega)]
theorem leftTo_len (ps : List (List Int)) (q i : Nat) : (leftTo ps q i).length ≤ i := by
  unfold leftTo
  exact Nat.le_trans (List.length_eraseIdx_le _ _) (List.length_take_le _ _)
theorem joined_snoc (n a b : Nat) (xs : List (List Int)) (e : List Int) : joined n a b (xs ++ [e]) = joined n a b xs ++ joinP n a b e := by
  unfold joined; simp

/-- deletion and contraction -/
theorem cut_law {n : Nat} {ps : List (List Int)} (he : treeErr n ps = 0) {q : Nat} (hq : q < ps.length) :
    2 ≤ n ∧ treeErr n (leftTo ps q ps.length) = 0 ∧ treeErr ((n : Int) - 1) (joined n (ptA (ps.getD q [])) (ptB (ps.getD q [])) (leftTo ps q ps.length)) = 0 ∧
      treesV n ps = treesV n (leftTo ps q ps.length) + treesV ((n : Int) - 1) (joined n (ptA (ps.getD q [])) (ptB (ps.getD q [])) (leftTo ps q ps.length)) := by
  obtain ⟨h1, h2, h3, h4⟩ := treeErr_good he
  have hmem : ps.getD q [] ∈ ps := by simp [List.getD, hq]
  obtain ⟨_, hab, ha, hb⟩ := (h4 _ hmem).pt
  obtain ⟨m, rfl⟩ : ∃ m, n = m + 2 := ⟨n - 2, by omega⟩
  have hps : ps = ps.take q ++ ps.getD q [] :: ps.drop (q + 1) := by
    simp [List.getD, hq]
  have hl : leftTo ps q ps.length = ps.take q ++ ps.drop (q + 1) := by
    unfold leftTo
    rw [List.take_length, List.eraseIdx_eq_take_drop_succ]
  rw [hl]
  obtain ⟨e, he'⟩ : ∃ e, e = ps.getD q [] := ⟨_, rfl⟩
  rw [← he'] at hps hab ha hb hmem ⊢
  obtain ⟨pre, hpre⟩ : ∃ e, e = ps.take q := ⟨_, rfl⟩
  obtain ⟨post, hpost⟩ : ∃ e, e = ps.drop (q + 1) := ⟨_, rfl⟩
  rw [← hpre, ← hpost] at hps ⊢
  clear hl he' hpre hpost hq
  subst hps
  have hgl : ∀ x ∈ pre ++ post, GoodP ((m + 2 : Nat) : Int) x := fun x hx => h4 x (by
    rw [List.mem_append] at hx ⊢
    rcases hx with h | h
    · exact Or.inl h
    · exact Or.inr (List.mem_cons_of_mem _ h))
  have e1 : ((m + 2 : Nat) : Int) - 1 = ((m + 1 : Nat) : Int) := by omega
  have hll : (pre ++ post).length ≤ 15 := by simp at h3 ⊢; omega
  have hL := treeErr_of h1 h2 hll hgl
  have hjl := joined_len (m + 2) (ptA e) (ptB e) (pre ++ post)
  have hjg := joined_good (n := m + 2) (a := ptA e) (b := ptB e) (by omega) (by omega) (by omega) hab hgl
  rw [show m + 2 - 1 = m + 1 by omega] at hjg
  have hJ : treeErr (((m + 1 : Nat)) : Int) (joined (m + 2) (ptA e) (ptB e) (pre ++ post)) = 0 := treeErr_of (by omega) (by omega) (by omega) hjg
  rw [e1]
  refine ⟨by omega, hL, hJ, ?_⟩
  rw [trees_cnt he, trees_cnt hL, trees_cnt hJ, cnt_cut h4]

theorem joinP_two (n a b x y : Nat) : joinP n a b [(x : Int), (y : Int)] = if ren n a b x ≠ ren n a b y then [[(ren n a b x : Int), (ren n a b y : Int)]] else [] := by
  unfold joinP; simp [ptA, ptB]
theorem ren_cases {n : Nat} (hn : 2 ≤ n) (a b z : Nat) :
    (((z : Int) == (b : Int)) = true ∧ ((a : Int) == (n : Int) - 1) = true ∧ ren n a b z = b) ∨ (((z : Int) == (b : Int)) = true ∧ ((a : Int) == (n : Int) - 1) = false ∧ ren n a b z = a) ∨
      (((z : Int) == (b : Int)) = false ∧ ((z : Int) == (n : Int) - 1) = true ∧ ren n a b z = b) ∨ (((z : Int) == (b : Int)) = false ∧ ((z : Int) == (n : Int) - 1) = false ∧ ren n a b z = z) := by
  simp only [beq_iff_eq, beq_eq_false_iff_ne, ne_eq]
  unfold ren
  dsimp only
  by_cases h : z = b
  · subst h
    by_cases h2 : a = n - 1
    · left; refine ⟨rfl, by omega, ?_⟩; rw [if_pos rfl, if_pos h2]
    · right; left; refine ⟨rfl, by omega, ?_⟩; rw [if_pos rfl, if_neg h2]
  · by_cases h2 : z = n - 1
    · right; right; left; refine ⟨by omega, by omega, ?_⟩; rw [if_neg h, if_pos h2]
    · right; right; right; refine ⟨by omega, by omega, ?_⟩; rw [if_neg h, if_neg h2]

theorem in_any (n lo hi : Int) (w : World) :
    Calls Try.prog 8 #[.int .i64 n, .int .i64 lo, .int .i64 hi] w fun e w' => e = .returned (.bool (inB n lo hi)) ∧ w = w' := by
  by_cases h1 : lo ≤ n <;> by_cases h2 : n ≤ hi
  all_goals
    go_enter Try.func8, Try.ntmps8
    go_wp2
    go_ret
    exact ⟨ret_bool (by simp [inB, h1, h2]), rfl⟩

theorem cut_bad {n : Int} (a : Option Addr) (m cap : Nat) (ps : List (List Int)) (q : Int) (w : World) (hr : RowsAt w a m ps) (hs : Small m ps) (he : treeErr n ps ≠ 0) :
    Calls Try.prog 3 #[.int .i64 n, .slice a m cap, .int .i64 q] w fun e w' => e = .returned (.bool true) ∧ Below w.heap.size w w' := by
  have hL := fun w (h : RowsAt w a m ps) => TCount_any n a m cap ps w h hs
  have HR := Lib.hid hr
  have hv : treesV n ps = 0 := by unfold treesV; rw [if_neg he]
  rw [hv] at hL
  rw [errV_pos he] at hL
  generalize treeErr n ps = e at *
  clear hr hs he hv
  go_enter Try.func3, Try.ntmps3
  go_wp2_with fail
  go_at_call 6
  refine (treeFact_any _).mono ?_
  rintro e w1 ⟨rfl, hb⟩
  go_wp2_with fail
  go_at_call 7
  refine (hL _ (HR.out.call hb)).mono ?_
  rintro e w2 ⟨rfl, hb2⟩
  go_wp2_with fail
  go_ret
  exact ⟨rfl, below_trans hb hb2⟩

theorem cut_out {n : Int} (a : Option Addr) (m cap : Nat) (ps : List (List Int)) (q : Int) (w : World) (hr : RowsAt w a m ps) (hs : Small m ps) (he : treeErr n ps = 0) (hq : q < 0 ∨ (m : Int) ≤ q) :
    Calls Try.prog 3 #[.int .i64 n, .slice a m cap, .int .i64 q] w fun e w' => e = .returned (.bool true) ∧ Below w.heap.size w w' := by
  have hL := fun w (h : RowsAt w a m ps) => TCount_any n a m cap ps w h hs
  have hm : m ≤ 15 := by have := (treeErr_good he).2.2.1; rw [hr.1] at this; exact this
  have HR := Lib.hid hr
  rw [he, errV_zero] at hL
  generalize treesV n ps = V at *
  clear hr hs he
  go_enter Try.func3, Try.ntmps3
  go_wp2_with fail
  go_at_call 6
  refine (treeFact_any _).mono ?_
  rintro e w1 ⟨rfl, hb⟩
  go_wp2_with fail
  go_at_call 7
  refine (hL _ (HR.out.call hb)).mono ?_
  rintro e w2 ⟨rfl, hb2⟩
  have hin : inB q 0 ((m : Int) - 1) = false := by simp [inB]; omega
  go_wp2_with fail
  go_at_call 8
  have hi2 := in_any q 0 ((m : Int) - 1) w2
  rw [hin] at hi2
  refine hi2.mono ?_
  rintro e w3 ⟨rfl, rfl⟩
  go_wp2_with fail
  go_ret
  exact ⟨rfl, below_trans hb hb2⟩

set_option maxRecDepth 8000 in
set_option maxHeartbeats 2000000 in
theorem cut_in {n : Int} (a : Option Addr) (m cap : Nat) (ps : List (List Int)) (q : Nat) (w : World) (hr : RowsAt w a m ps) (hs : Small m ps) (he : treeErr n ps = 0) (hq : q < m) :
    Calls Try.prog 3 #[.int .i64 n, .slice a m cap, .int .i64 q] w fun e w' => e = .returned (.bool true) ∧ Below w.heap.size w w' := by
  have hL := fun w (h : RowsAt w a m ps) => TCount_any n a m cap ps w h hs
  obtain ⟨g1, g2, g3, g4⟩ := treeErr_good he
  obtain ⟨N, rfl⟩ := Int.eq_ofNat_of_zero_le (show 0 ≤ n by omega)
  have hml := hr.1
  obtain ⟨c1, c2, c3, c4⟩ := cut_law he (q := q) (by omega)
  have hm15 : m ≤ 15 := by omega
  rw [he, errV_zero] at hL
  rw [hml] at c2 c3 c4
  obtain ⟨b, off, rfl, hbw⟩ := hr.some (by omega)
  have hgood : ∀ i, i < m → ∃ x y : Nat, ps.getD i [] = [(x : Int), (y : Int)] ∧ x < N ∧ y < N := by
    intro i hi
    have : ps.getD i [] ∈ ps := by simp [List.getD, hml, hi]
    obtain ⟨e1, e2, e3, e4⟩ := (g4 _ this).pt
    exact ⟨_, _, e1, by omega, by omega⟩
  obtain ⟨pA, pB, hpe, hpa, hpb⟩ := hgood q hq
  have eA : ptA (ps.getD q []) = pA := by rw [hpe]; simp [ptA]
  have eB : ptB (ps.getD q []) = pB := by rw [hpe]; simp [ptB]
  rw [eA, eB] at c3 c4
  have hin : inB (q : Int) 0 ((m : Int) - 1) = true := by simp [inB]; omega
  have HR := Lib.hid hr
  have HG := Lib.hid hgood
  have HC2 := Lib.hid c2
  have HC3 := Lib.hid c3
  have HC4 := Lib.hid c4
  have HPE := Lib.hid hpe
  obtain ⟨V, hV⟩ : ∃ V, V = treesV N ps := ⟨_, rfl⟩
  rw [← hV] at hL HC4
  clear hr hs he g3 g4 hgood c2 c3 c4 hpe eA eB hV hbw
  go_enter Try.func3, Try.ntmps3
  go_wp2_with fail
  go_at_call 6
  refine (treeFact_any _).mono ?_
  rintro e w1 ⟨rfl, hb⟩
  go_wp2_with fail
  go_at_call 7
  refine (hL _ (HR.out.call hb)).mono ?_
  rintro e w2 ⟨rfl, hb2⟩
  have hbel := below_trans hb hb2
  go_wp2_with fail
  go_at_call 8
  have hi2 := in_any q 0 ((m : Int) - 1) w2
  rw [hin] at hi2
  refine hi2.mono ?_
  rintro e w3 ⟨rfl, rfl⟩
  have HR2 := Lib.hid (HR.out.call hbel)
  obtain ⟨ra, rc, hc, e1, e2, e3, e4⟩ := HR2.out.row hq
  rw [HPE.out] at hc e1 e4
  obtain ⟨rb, roff, rfl, hrb, hcs⟩ := e4.some (by simp)
  have hx0 := hcs 0 (by simp)
  have hx1 := hcs 1 (by simp)
  simp only [List.getD_cons_zero, List.getD_cons_succ, List.length_cons, List.length_nil, Nat.add_zero, Nat.zero_add, Nat.reduceAdd] at hx0 hx1 hc e1
  clear hcs e4 e3
  go_wp2_with fail
  clear hx0 hx1 hc e1
  go_loopg [10, 11, 14] (m + 1) (fun g vL vJ i wr => ∃ (k : Nat) (ls js : List Value), k ≤ m ∧ m - k < g ∧ i = .int .i64 k ∧ Two wr w2.heap.size vL ls (leftTo ps q k) vJ js (joined N pA pB (leftTo ps q k)) ∧ Below w2.heap.size w2 wr)
  case atStart => exact ⟨0, [], [], by omega, by omega, rfl, by simpa [leftTo, joined] using Two.nil w2 _, Below.refl _ _⟩
  case round =>
    obtain ⟨k, ls, js, hk, hg, rfl, htwo, hbr⟩ := hrel
    have HR3 := Lib.hid (HR2.out.call hbr)
    have HT := Lib.hid htwo
    obtain ⟨wo, rfl⟩ : ∃ wo : World, wo = wr := ⟨_, rfl⟩
    by_cases hlt : k < m
    · by_cases hkr : k = q
      · have hkb : ((k : Int) == (q : Int)) = true := by simp [hkr]
        have HKR := Lib.hid hkr
        clear hkr htwo
        go_wp2_with fail
        go_roundg (m - k)
        case measure => omega
        case rel =>
          refine ⟨k + 1, ls, js, by omega, by omega, by go_num, ?_, hbr⟩
          have e0 : leftTo ps q (k + 1) = leftTo ps q k := by rw [HKR.out]; exact leftTo_hit ps q (by have := HR2.out.1; omega)
          rw [e0]
          exact HT.out
      · have hkb : ((k : Int) == (q : Int)) = false := by simp; omega
        have HKR := Lib.hid hkr
        obtain ⟨ra, rc, hc, e1, e2, e3, e4⟩ := HR2.out.row hlt
        obtain ⟨x, y, hxy, hxn, hyn⟩ := HG.out k hlt
        have hok := ok_old e4 hbr e1 e2 e3 (by rw [hxy]; simp)
        rw [hxy] at hc e1 e4
        obtain ⟨rb, roff, rfl, hrb, hcs⟩ := e4.some (by simp)
        have HOK : Hid (Ok wo w2.heap.size (.slice (some ⟨rb, roff, none⟩) 2 rc) (ps.getD k [])) := Lib.hid (by rw [hxy] at hok ⊢; exact hok)
        clear hok
        have hx0 := hcs 0 (by simp)
        have hx1 := hcs 1 (by simp)
        simp only [List.getD_cons_zero, List.getD_cons_succ, List.length_cons, List.length_nil, Nat.add_zero, Nat.zero_add, Nat.reduceAdd] at hx0 hx1 hc e1
        have hbw2 : b < w2.heap.size := World.block_lt_of_cell? _ _ hc
        have hc' : wo.cell? ⟨b, off + k, none⟩ = some (.slice (some ⟨rb, roff, none⟩) 2 rc) := by rw [hbr.cell (p := ⟨b, off + k, none⟩) (World.block_lt_of_cell? _ _ hc)]; exact hc
        have hx0' : wo.cell? ⟨rb, roff, none⟩ = some (.int .i64 x) := by rw [hbr.cell (p := ⟨rb, roff, none⟩) hrb]; exact hx0
        have hx1' : wo.cell? ⟨rb, roff + 1, none⟩ = some (.int .i64 y) := by rw [hbr.cell (p := ⟨rb, roff + 1, none⟩) hrb]; exact hx1
        have HXY := Lib.hid hxy
        clear hcs e4 e3 hkr htwo hx0 hx1 hc hxy
        obtain ⟨ji, hj, hy0, hy1, hy2⟩ := info_parts info_ints
        have hll : ls.length ≤ 15 := by rw [HT.out.len1]; exact Nat.le_trans (leftTo_len ps q k) (by omega)
        have hjl : js.length ≤ 15 := by rw [HT.out.len2]; exact Nat.le_trans (joined_len _ _ _ _) (Nat.le_trans (leftTo_len ps q k) (by omega))
        have hsz : w2.heap.size ≤ wo.heap.size := hbr.size
        have hjp : (ren N pA pB x = ren N pA pB y → joinP N pA pB (ps.getD k []) = []) ∧ (ren N pA pB x ≠ ren N pA pB y → joinP N pA pB (ps.getD k []) = [[(ren N pA pB x : Int), (ren N pA pB y : Int)]]) := by
          rw [HXY.out, joinP_two]
          exact ⟨fun h => by simp [h], fun h => by simp [h]⟩
        have HST := Lib.hid (leftTo_miss ps q k (by rw [HR2.out.1]; exact hlt) HKR.out)
        obtain ⟨t1, t2, t3⟩ | ⟨t1, t2, t3⟩ | ⟨t1, t2, t3⟩ | ⟨t1, t2, t3⟩ := ren_cases c1 pA pB x <;> obtain ⟨s1, s2, s3⟩ | ⟨s1, s2, s3⟩ | ⟨s1, s2, s3⟩ | ⟨s1, s2, s3⟩ := ren_cases c1 pA pB y
        all_goals first | (exact absurd (t2.symm.trans s2) (by decide)) | (exact absurd (s2.symm.trans t2) (by decide)) | skip
        all_goals by_cases hne : ren N pA pB x = ren N pA pB y
        all_goals first | (have HJP := Lib.hid (hjp.1 hne); have t5 : ((ren N pA pB x : Int) != (ren N pA pB y : Int)) = false := by simp [hne]) | (have HJP := Lib.hid (hjp.2 hne); have t5 : ((ren N pA pB x : Int) != (ren N pA pB y : Int)) = true := by simp; omega)
        all_goals rw [t3, s3] at t5
        all_goals first | (simp at t5; done) | skip
        all_goals have HREN := Lib.hid (And.intro t3 s3)
        all_goals clear t3 s3 hne hjp
        all_goals go_wp2_with (first | (at_builtin; refine wpList_append_own2 (o := ⟨some 67, _, _, _, _, _⟩) rfl _ _ 22 rfl w2.heap.size 29 ji (.slice none 0 0) 24 Try.underlying22 hj hy0 hy1 hy2 rfl _ ls.length ls rfl (World.ownsRow.alloc HT.out.own1 _) ⟨wo.heap.size, 0, none⟩ 1 1 [.slice (some ⟨rb, roff, none⟩) 2 rc] rfl rfl (fun j u hj => by obtain ⟨ad', h1, h2⟩ := one_new _ _ _ j u hj; cases h1; exact h2) (one_slice _ _ _) (by unfold maxLen; omega) (by omega) (le_alloc hsz _) ?_; intro v3 w3 hown3 hgrow3 hblk3; have hbel3 : Below w2.heap.size wo w3 := ((Below.refl _ _).alloc hsz _).trans (grown_below hgrow3 (le_alloc hsz _) (fun k hk => (World.ownsRow.lt HT.out.own1 k hk).1)); have HT3 := Lib.hid ((HT.out.grow (alloc_grown _ _)).snoc (HOK.out.grow (alloc_grown _ _) (own_none _ _)) hown3 hgrow3 hblk3); have hsz3 : w2.heap.size ≤ w3.heap.size := Nat.le_trans hsz hbel3.size; have q1 : w3.cell? ⟨b, off + k, none⟩ = some (.slice (some ⟨rb, roff, none⟩) 2 rc) := (by rw [hbel3.cell (p := ⟨b, off + k, none⟩) hbw2]; exact hc'); have q2 : w3.cell? ⟨rb, roff, none⟩ = some (.int .i64 x) := (by rw [hbel3.cell (p := ⟨rb, roff, none⟩) hrb]; exact hx0'); have q3 : w3.cell? ⟨rb, roff + 1, none⟩ = some (.int .i64 y) := (by rw [hbel3.cell (p := ⟨rb, roff + 1, none⟩) hrb]; exact hx1'); clear hc' hx0' hx1' hown3 hgrow3 hblk3) | (at_builtin; go_loud (refine wpList_append_own2 (o := ⟨some 106, _, _, _, _, _⟩) rfl _ _ 22 rfl w2.heap.size 29 ji (.slice none 0 0) 24 Try.underlying22 hj hy0 hy1 hy2 rfl _ js.length js rfl ((HT3.out.grow (alloc_grown _ _)).grow (alloc_grown _ _)).own2 ⟨_, 0, none⟩ 1 1 [.slice (some ⟨w3.heap.size, 0, none⟩) 2 2] rfl rfl (fun j u hj => by obtain ⟨ad', h1, h2⟩ := one_new (w3.alloc _) _ _ j u hj; cases h1; first | exact h2 | simpa using h2) (one_slice _ _ _) (by unfold maxLen; omega) (by omega) (le_alloc (le_alloc hsz3 _) _) ?_); intro v4 w4 hown4 hgrow4 hblk4; go_loud (have HT4 := Lib.hid (((HT3.out.grow (alloc_grown _ _)).grow (alloc_grown _ _)).symm.snoc ((ok_new _ _ _).grow (alloc_grown _ _) (own_none _ _)) hown4 hgrow4 hblk4).symm); go_loud (have hbel4 : Below w2.heap.size wo w4 := hbel3.trans ((((Below.refl _ _).alloc hsz3 _).alloc (le_alloc hsz3 _) _).trans (grown_below hgrow4 (le_alloc (le_alloc hsz3 _) _) (fun k hk => (World.ownsRow.lt HT3.out.own2 k hk).1)))); clear hown4 hgrow4 hblk4))
        all_goals go_roundg (m - k)
        all_goals first
          | omega
          | exact ⟨k + 1, ls ++ [.slice (some ⟨rb, roff, none⟩) 2 rc], js, by omega, by omega, by go_num, by rw [HST.out, joined_snoc, HJP.out, List.append_nil]; exact HT3.out, hbr.trans hbel3⟩
          | exact ⟨k + 1, ls ++ [.slice (some ⟨rb, roff, none⟩) 2 rc], js ++ [.slice (some ⟨w3.heap.size, 0, none⟩) 2 2], by omega, by omega, by go_num, by rw [HST.out, joined_snoc, HJP.out, HREN.out.1, HREN.out.2]; exact HT4.out, hbr.trans hbel4⟩
    · obtain rfl : k = m := by omega
      obtain ⟨aL, capL, rfl, l1, l2, hrL⟩ := htwo.rows
      obtain ⟨aJ, capJ, rfl, j1, j2, hrJ⟩ := htwo.symm.rows
      have sL : Small (leftTo ps q k).length (leftTo ps q k) := ⟨by have := leftTo_len ps q k; omega, fun i hi => by
        have h := (treeErr_good HC2.out).2.2.2 _ (List.getElem_mem hi)
        have e : (leftTo ps q k).getD i [] = (leftTo ps q k)[i] := by simp [List.getD, hi]
        rw [e, h.1]; omega⟩
      have sJ : Small (joined N pA pB (leftTo ps q k)).length (joined N pA pB (leftTo ps q k)) := ⟨by have := joined_len N pA pB (leftTo ps q k); have := leftTo_len ps q k; omega, fun i hi => by
        have h := (treeErr_good HC3.out).2.2.2 _ (List.getElem_mem hi)
        have e : (joined N pA pB (leftTo ps q k)).getD i [] = (joined N pA pB (leftTo ps q k))[i] := by simp [List.getD, hi]
        rw [e, h.1]; omega⟩
      have cL := fun w h => TCount_any N aL (leftTo ps q k).length capL (leftTo ps q k) w h sL
      have cJ := fun w h => TCount_any ((N : Int) - 1) aJ (joined N pA pB (leftTo ps q k)).length capJ (joined N pA pB (leftTo ps q k)) w h sJ
      rw [HC2.out, errV_zero] at cL
      rw [HC3.out, errV_zero] at cJ
      have bL : -93312000000 ≤ treesV N (leftTo ps q k) ∧ treesV N (leftTo ps q k) ≤ 93312000000 := by unfold treesV; rw [if_pos HC2.out]; exact trees_bd HC2.out
      have bJ : -93312000000 ≤ treesV ((N : Int) - 1) (joined N pA pB (leftTo ps q k)) ∧ treesV ((N : Int) - 1) (joined N pA pB (leftTo ps q k)) ≤ 93312000000 := by unfold treesV; rw [if_pos HC3.out]; exact trees_bd HC3.out
      obtain ⟨P1, hP1⟩ : ∃ P, P = treesV N (leftTo ps q k) := ⟨_, rfl⟩
      obtain ⟨P2, hP2⟩ : ∃ P, P = treesV ((N : Int) - 1) (joined N pA pB (leftTo ps q k)) := ⟨_, rfl⟩
      have hVe := HC4.out
      rw [← hP1] at cL bL hVe
      rw [← hP2] at cJ bJ hVe
      have HRL := Lib.hid hrL
      have HRJ := Lib.hid hrJ
      clear hrL hrJ sL sJ hP1 hP2 htwo HT
      have ht : (V == P1 + P2) = true := by simp [hVe]
      have HV := Lib.hid hVe
      clear hVe
      go_wp2_with fail
      go_at_call 7
      refine (cL _ HRL.out).mono ?_
      rintro e w4 ⟨rfl, hb4⟩
      go_wp2_with fail
      go_at_call 7
      refine (cJ _ (HRJ.out.call hb4)).mono ?_
      rintro e w5 ⟨rfl, hb5⟩
      go_wp2_with fail
      go_ret
      exact ⟨rfl, below_trans hbel (below_trans hbr (below_trans hb4 hb5))⟩

theorem TreeCut_any (n : Int) (a : Option Addr) (m cap : Nat) (ps : List (List Int)) {w' : World} (hw : RowsAt w' a m ps) (hc : m ≤ cap) (hm : Small m ps) (q : Int) (w : World) (e : w' = w) :
    Calls Try.prog 3 #[.int .i64 n, .slice a m cap, .int .i64 q] w fun e w' => e = .returned (.bool true) ∧ Below w.heap.size w w' := by
  subst e
  by_cases he : treeErr n ps = 0
  · by_cases hq : q < 0 ∨ (m : Int) ≤ q
    · exact cut_out a m cap ps q w' hw hm he hq
    · obtain ⟨Q, rfl⟩ := Int.eq_ofNat_of_zero_le (show 0 ≤ q by omega)
      exact cut_in a m cap ps Q w' hw hm he (by omega)
  · exact cut_bad a m cap ps q w' hw hm he
theorem frame_own : ownKnob Try.prog.godebug = none := by kernel_rfl
theorem frame_laid : laidOutB Try.prog = true := by kernel_rfl
set_option maxRecDepth 100000 in
theorem frame_lifted (os : Os) (started : os.Started) (H : Type) (enc : TypeId × Value → H) :
    ReturnsInHanded {} Try.checked os 3 .any (Rows.treeCutSpec.pre6 enc Try.prog Try.f3 Rows.treeCutRow.domain false) (Rows.treeCutSpec.post enc Try.prog Try.f3 false true false false) := by
  refine returnsInHanded_of_change (C := Try.checked) frame_own started (by kernel_rfl) Try.func3
    (ChangeSpec.witness6 (enc := enc) (C := Try.checked) false ⟨#[], #[.int .i64 0, .slice none 0 0, .int .i64 0], []⟩ 8 (by kernel_rfl) (by kernel_rfl) (by kernel_rfl) (by kernel_rfl)) ?_
  intro W base args ds gs before hval0 hW hcnd _
  have hval : ∀ (j : Nat) t v, Try.f3.params[j]? = some t → args[j]? = some v → Value.okWide Try.prog W .any base t v := hval0
  have hW' := hW
  obtain ⟨p, q, hA0, hV, rfl, hfz, hnd⟩ := hW
  have hA : DataW.TrodAll enc Try.prog W 0 (fun _ => true) true Try.f3.params.toList args.toList ds p := hA0
  rw [Try.params3] at hA hval
  obtain ⟨v0, vs0, d0, ds0, p0, q0, hargs, rfl, rfl, h0, r0⟩ := trodAll_cons hA
  obtain ⟨v1, vs1, d1, ds1, p1, q1, rfl, rfl, rfl, h1, r1⟩ := trodAll_cons r0
  obtain ⟨v2, vs2, d2, ds2, p2, q2, rfl, rfl, rfl, h2, r2⟩ := trodAll_cons r1
  obtain ⟨rfl, rfl, rfl⟩ := trodAll_nil r2
  obtain rfl : args = #[v0, v1, v2] := by cases args; simp_all
  obtain ⟨rfl, rfl⟩ := trodVars_none hV
  have k0 := h0
  have lt0 : ∀ x ∈ p0, x.block < W.heap.size := by obtain ⟨m, hm⟩ := k0; exact DataW.trod_lt m _ _ _ hm
  obtain ⟨a0, rfl, rfl, rfl, w0⟩ := open_int Try.underlying3 (hval 0 3 v0 rfl rfl) h0
  have k1 := h1
  have lt1 : ∀ x ∈ p1, x.block < W.heap.size := by obtain ⟨m, hm⟩ := k1; exact DataW.trod_lt m _ _ _ hm
  obtain ⟨a1, len1, cap1, rfl⟩ := okWide_slice Try.underlying22 (hval 1 22 v1 rfl rfl)
  obtain ⟨xs1, hxs1, hcap1, hmax1⟩ := open_rowsAt Try.underlying22 Try.underlying29 Try.underlying3 (by kernel_rfl) (by kernel_rfl) h1
  have k2 := h2
  have lt2 : ∀ x ∈ p2, x.block < W.heap.size := by obtain ⟨m, hm⟩ := k2; exact DataW.trod_lt m _ _ _ hm
  obtain ⟨a2, rfl, rfl, rfl, w2⟩ := open_int Try.underlying3 (hval 2 3 v2 rfl rfl) h2
  clear hA0 hval0
  refine (TreeCut_any a0 a1 len1 cap1 xs1 hxs1 hcap1 hmax1 a2 W rfl).mono fun e W' ⟨he, bel⟩ => ?_
  subst he
  exact ⟨_, rfl, _, _, _, [], _, [], hW', trodAll_mk1 (shut_bool Try.underlying4 _), (trodAll_cons_mk (Below.trod frame_laid (by kernel_rfl) (of_decide_eq_true (by kernel_rfl)) k0 bel lt0) (trodAll_cons_mk (Below.trod frame_laid (by kernel_rfl) (of_decide_eq_true (by kernel_rfl)) k1 bel lt1) (trodAll_cons_mk (Below.trod frame_laid (by kernel_rfl) (of_decide_eq_true (by kernel_rfl)) k2 bel lt2) trodAll_mk0))), rfl, bel.frame _, fun h => by cases h⟩

theorem TreeCut_over : Rows.treeCutRow.holds Try.pinned (OpenSpec.ofChange Rows.treeCutSpec) :=
  OpenClaim.holds_of_wide 3 Try.f3 rfl rfl rfl rfl rfl rfl rfl ⟨rfl, rfl, rfl, rfl, rfl⟩ rfl rfl rfl rfl rfl (by kernel_rfl) Try.func3 (by kernel_rfl)
    (of_decide_eq_true (by kernel_rfl)) (by unfold Func.isWrapper; first | (rw [if_pos (by decide +kernel)]; kernel_rfl) | (rw [if_neg (by decide +kernel)]; exact ⟨rfl, rfl⟩))
    (fun os started H enc _ => frame_lifted os started H enc)

/-- THE STATEMENT -/
theorem TreeCut_holds : Rows.TreeCutSaid := TreeCut_over
end Go.Proofs.Ytinekiclcccpbaa.TreeCutP
