/- It proves that rankmerelaw4.TreeCayley, called with any integer, returns true. The one condition: errors.errorType is as the program's text lays it; the card ties it. -/
import Derived.Test.YtikghgpnjeaebaaDoorTreeFact
import Derived.Test.YtikghgpnjeaebaaDoorTold
import Derived.Test.YtikghgpnjeaebaaDoorLawIn
import Derived.Test.YtikghgpnjeaebaaDoorOpen
import Derived.Test.YtikghgpnjeaebaaDoorTie
import Derived.Test.YtikghgpnjeaebaaDoorCards
import Derived.ProofKit
import Derived.OpenShut
import Derived.ShutString
import Derived.ChangeOld
import Derived.ChangeVars
import Derived.Laws.OwnMore
import Derived.Lib.SmallJoins
import Derived.LaidLaws
import Derived.LaidHandle
import Derived.Stop.Joined
import Derived.SevenTiedAt
import Derived.StillTailTactics
namespace Go.Proofs.YtikghgpnjeaebaaDoor.TreeCayleyP
open Go.ChangeShapes Go.WideShapes Go.ChangeAt Go.RowKit Go.Joins
open Go.ChangeMaps (open_string shut_string)
open Go.Proofs.YtikghgpnjeaebaaDoor
set_option linter.unusedVariables false
set_option linter.unusedSimpArgs false

/-- the pairs of i points, and j of the next one's -/
def pairsTo (i j : Nat) : List (List Int) := ((List.range i).flatMap fun (a : Nat) => (List.range a).map fun (b : Nat) => [(a : Int), (b : Int)]) ++ (List.range j).map fun (b : Nat) => [(i : Int), (b : Int)]
theorem pairsTo_succ (i j : Nat) : pairsTo i (j + 1) = pairsTo i j ++ [[(i : Int), (j : Int)]] := by simp [pairsTo, List.range_succ]
theorem pairsTo_next (i : Nat) : pairsTo (i + 1) 0 = pairsTo i i := by simp [pairsTo, List.range_succ]
theorem pairs_len : ∀ i, i < 7 → ∀ j, j < 7 → (pairsTo i j).length ≤ 21 := by decide +kernel
theorem pairs_two (i j k : Nat) (hk : k < (pairsTo i j).length) : ((pairsTo i j).getD k []).length = 2 := by
  have hm : (pairsTo i j).getD k [] ∈ pairsTo i j := by
    rw [List.getD_eq_getElem?_getD, List.getElem?_eq_getElem hk]; exact List.getElem_mem _
  simp only [pairsTo, List.mem_append, List.mem_flatMap, List.mem_map] at hm
  unfold pairsTo
  rcases hm with ⟨a, _, b, _, e⟩ | ⟨b, _, e⟩ <;> rw [← e] <;> rfl
/-- n points have so many trees -/
theorem cayley : ∀ n : Nat, n < 7 → 1 ≤ n → treeErr (n : Int) (pairsTo n 0) = 0 ∧ treesV (n : Int) (pairsTo n 0) = (n : Int) ^ (n - 2) := by decide +kernel
theorem pow_bd : ∀ n : Nat, n < 7 → ∀ k : Nat, k < 5 → 0 ≤ (n : Int) ^ k ∧ (n : Int) ^ k ≤ 1296 := by decide +kernel

theorem cayley_bad (n : Int) (w : World) (hn : inB n 1 6 = false) (hg : Handle w) :
    Calls Tryd.prog 3 #[.int .i64 n] w fun e w' => e = .returned (.bool true) ∧ Below w.heap.size w w' := by
  have he : treeErr n [] = 1 := by
    unfold treeErr
    rw [if_pos]
    have := inB_false hn
    simp [outB]; omega
  have hC := Lib.hid (fun W => TCount_any n none 0 0 [] W ⟨rfl, fun i hi => absurd hi (Nat.not_lt_zero i)⟩ ⟨by omega, fun k hk => absurd hk (Nat.not_lt_zero k)⟩)
  rw [he, errV_pos (by decide)] at hC
  have HG := Lib.hid hg
  clear hg he
  go_enter Tryd.func3, Tryd.ntmps3
  go_wp2_with fail
  go_at_call 4
  refine (treeFact_any _).mono ?_
  rintro e w1 ⟨rfl, hb⟩
  go_wp2_with fail
  go_at_call 5
  refine (in_any _ _ _ _).mono ?_
  rintro e w2 ⟨rfl, rfl⟩
  rw [hn]
  go_wp2_with fail
  go_at_call 6
  refine (hC.out _).mono ?_
  rintro e w3 ⟨rfl, hb3⟩
  have hE := EError_any 1 1 w3 (HG.out.call (below_trans hb hb3))
  rw [errV_pos (by decide)] at hE
  go_wp2_with fail
  go_at_call 7
  refine (hE).mono ?_
  rintro e w4 ⟨rfl, hb4⟩
  go_wp2_with fail
  go_ret
  exact ⟨rfl, below_trans (below_trans hb hb3) hb4⟩

set_option maxRecDepth 100000 in
set_option maxHeartbeats 2000000 in
theorem cayley_good (n : Nat) (w : World) (h1 : 1 ≤ n) (h6 : n < 7) (hg : Handle w) :
    Calls Tryd.prog 3 #[.int .i64 n] w fun e w' => e = .returned (.bool true) ∧ Below w.heap.size w w' := by
  obtain ⟨c1, c2⟩ := cayley n h6 h1
  have hin := inB_yes (n := (n : Int)) (lo := 1) (hi := 6) (by omega) (by omega)
  obtain ⟨ii, hi, hz0, hz1, hz2⟩ := info_parts info_int
  obtain ⟨ji, hj, hy0, hy1, hy2⟩ := info_parts info_ints
  have HC1 := Lib.hid c1
  have HC2 := Lib.hid c2
  clear c1 c2 hg
  go_enter Tryd.func3, Tryd.ntmps3
  go_wp2_with fail
  go_at_call 4
  refine (treeFact_any _).mono ?_
  rintro e w1 ⟨rfl, hb⟩
  go_wp2_with fail
  go_at_call 5
  refine (in_any _ _ _ _).mono ?_
  rintro e w2 ⟨rfl, rfl⟩
  rw [hin]
  go_wp2_with fail
  go_loopg [6, 7] (n + 1) (fun g v i wr => ∃ k : Nat, k ≤ n ∧ n - k < g ∧ i = .int .i64 k ∧ OwnRows wr w.heap.size v (pairsTo k 0) ∧ Below w.heap.size w wr)
  case atStart => exact ⟨0, by omega, by omega, rfl, by simpa [pairsTo] using OwnRows.nil w1 w.heap.size, hb⟩
  case round =>
    obtain ⟨k, hk, hg, rfl, hown, hbel⟩ := hrel
    have HO := Lib.hid hown
    clear hown hb
    by_cases hlt : k < n
    · have hki : (k : Int) < n := by omega
      go_wp2_with fail
      go_loopg [6, 8] (k + 1) (fun g v i wr => ∃ l : Nat, l ≤ k ∧ k - l < g ∧ i = .int .i64 l ∧ OwnRows wr w.heap.size v (pairsTo k l) ∧ Below w.heap.size w wr)
      case atStart => exact ⟨0, by omega, by omega, rfl, HO.out, hbel⟩
      case round =>
        obtain ⟨l, hl, hg, rfl, hown, hbel⟩ := hrel
        clear HO
        by_cases hlk : l < k
        · obtain ⟨vs, hvs⟩ := hown.vals
          have hvl : vs.length ≤ 21 := by rw [hvs.2.1]; exact pairs_len k (by omega) l (by omega)
          have HVS := Lib.hid hvs
          have hsz := hbel.size
          have hlki : (l : Int) < k := by omega
          have hpair := World.ownsRow_lit (base := wr.heap.size) (e := 3) (size := 1) wr #[.int .i64 (k : Int), .int .i64 (l : Int)] 2 (Nat.le_refl _) (by unfold maxLen; omega) rfl
          have hba : Below wr.heap.size wr (wr.alloc (.cells #[.int .i64 (k : Int), .int .i64 (l : Int)] 3)) := (Below.refl _ wr).alloc (Nat.le_refl _) _
          have HP := Lib.hid (show OwnInts (wr.alloc (.cells #[.int .i64 (k : Int), .int .i64 (l : Int)] 3)) wr.heap.size (.slice (some ⟨wr.heap.size, 0, none⟩) 2 2) [(k : Int), (l : Int)] from hpair)
          have hszA : w.heap.size ≤ (wr.alloc (.cells #[.int .i64 (k : Int), .int .i64 (l : Int)] 3)).heap.size := le_alloc hsz _
          have hnew := one_new (wr.alloc (.cells #[.int .i64 (k : Int), .int .i64 (l : Int)] 3)) (.slice (some ⟨wr.heap.size, 0, none⟩) 2 2) 30
          rw [show (wr.alloc (.cells #[.int .i64 (k : Int), .int .i64 (l : Int)] 3)).heap.size = wr.heap.size + 1 from (by simp only [World.alloc, Array.size_push])] at hnew
          have HN := Lib.hid hnew
          clear hvs hown hpair hnew
          go_wp2_with (at_builtin; refine wpList_append_own1 (o := ⟨some 41, _, _, _, _, _⟩) rfl _ _ 29 rfl w.heap.size 30 ji (.slice none 0 0) 24 Tryd.underlying29 hj hy0 hy1 hy2 rfl _ vs.length vs rfl ((HVS.out.1.call hba).alloc _) (some ⟨wr.heap.size + 1, 0, none⟩) 1 1 [.slice (some ⟨wr.heap.size, 0, none⟩) 2 2] rfl rfl (fun h => by cases h) HN.out (one_slice _ _ _) (by unfold maxLen; omega) (by omega) (le_alloc hszA _) ?_; intro v3 w3 hown3 hgrow3)
          have hsn := OwnRowsV.snoc HVS.out hsz hba HP.out hown3 hgrow3
          rw [← pairsTo_succ] at hsn
          have hbel3 : Below w.heap.size w w3 := hbel.trans ((hba.mono hsz).trans (((Below.refl w.heap.size _).alloc hszA _).trans (grown_below hgrow3 (le_alloc hszA _) (fun k hk => (World.ownsRow.lt HVS.out.1 k hk).1))))
          go_roundg (k - l)
          case measure => omega
          case rel => exact ⟨l + 1, by omega, by omega, by go_num, hsn, hbel3⟩
        · obtain rfl : l = k := by omega
          have HO := Lib.hid hown
          clear hown
          go_wp2_with fail
          go_roundg (n - l)
          case measure => omega
          case rel => exact ⟨l + 1, by omega, by omega, by go_num, by rw [pairsTo_next]; exact HO.out, hbel⟩
    · obtain rfl : k = n := by omega
      obtain ⟨a2, cap2, rfl, hc1, hc2, hra⟩ := HO.out.rowsAt
      have hpl := pairs_len k (by omega) 0 (by omega)
      obtain ⟨m, hm⟩ : ∃ m, m = (pairsTo k 0).length := ⟨_, rfl⟩
      rw [← hm] at hra hc1 hpl ⊢
      have HT := Lib.hid (fun W (h : RowsAt W a2 m (pairsTo k 0)) => TCount_any (k : Int) a2 m cap2 (pairsTo k 0) W h ⟨by omega, fun q hq => by rw [pairs_two k 0 q (by rw [← hm]; exact hq)]; omega⟩)
      rw [HC1.out, HC2.out, errV_zero] at HT
      have HRA := Lib.hid hra
      clear hra HO hm
      go_wp2_with fail
      obtain ⟨wo, rfl⟩ : ∃ wo : World, wo = wr := ⟨_, rfl⟩
      go_loopg [9, 10] (k + 2) (fun g s i wr => ∃ q : Nat, 2 ≤ q ∧ q ≤ max k 2 ∧ max k 2 - q < g ∧ s = .int .i64 ((k : Int) ^ (q - 2)) ∧ i = .int .i64 q ∧ wr = wo)
      case atStart => exact ⟨2, by omega, by omega, by omega, rfl, rfl, rfl⟩
      case round =>
        obtain ⟨q, hq2, hqm, hgq, rfl, rfl, rfl⟩ := hrel
        by_cases hqk : q < k
        · have hqi : (q : Int) < k := by omega
          have p1 := pow_bd k (by omega) (q - 2) (by omega)
          have p2 := pow_bd k (by omega) (q + 1 - 2) (by omega)
          have hs : (k : Int) ^ (q + 1 - 2) = (k : Int) ^ (q - 2) * k := by rw [show q + 1 - 2 = (q - 2) + 1 by omega, Int.pow_succ]
          rw [hs] at p2
          have HS := Lib.hid hs
          obtain ⟨s, hss⟩ : ∃ s, s = (k : Int) ^ (q - 2) := ⟨_, rfl⟩
          rw [← hss] at p1 p2 HS ⊢
          obtain ⟨t, ht⟩ : ∃ t, t = s * (k : Int) := ⟨_, rfl⟩
          rw [← ht] at p2 HS
          have hwt : IntKind.i64.wrap (s * (k : Int)) = t := by rw [← ht]; exact IntWalk.i64_in _ (by omega)
          clear hs hss ht
          go_wp2_with fail
          go_roundg (max k 2 - q)
          case measure => omega
          case rel => exact ⟨q + 1, by omega, by omega, by omega, by rw [HS.out], by go_num, rfl⟩
        · have hqi : ¬ (q : Int) < k := by omega
          have HQ := Lib.hid (show (k : Int) ^ (q - 2) = (k : Int) ^ (k - 2) by rw [show q - 2 = k - 2 by omega])
          rw [HQ.out]
          generalize (k : Int) ^ (k - 2) = z at *
          go_wp2_with fail
          go_at_call 6
          refine (HT.out _ HRA.out).mono ?_
          rintro e w5 ⟨rfl, hb5⟩
          go_wp2_with fail
          go_ret
          exact ⟨rfl, below_trans hbel hb5⟩

theorem TreeCayley_any (n : Int) (w : World) (hg : Handle w) :
    Calls Tryd.prog 3 #[.int .i64 n] w fun e w' => e = .returned (.bool true) ∧ Below w.heap.size w w' := by
  cases hn : inB n 1 6
  · exact cayley_bad n w hn hg
  · have h := inB_true hn
    obtain ⟨m, rfl⟩ := Int.eq_ofNat_of_zero_le (show 0 ≤ n by omega)
    exact cayley_good m w (by omega) (by omega) hg
theorem frame_own : ownKnob Tryd.prog.godebug = none := by kernel_rfl
theorem frame_laid : laidOutB Tryd.prog = true := by kernel_rfl
theorem frame_et : Tryd.prog.globalNamed "errors.errorType" = some 0 := by kernel_rfl
theorem frame_rt : (Tryd.prog.cutTypes.find? (·.1 == "internal/reflectlite.rtype")).map (·.2) = some 55 := by kernel_rfl
theorem frame_oneRow : ((List.range 98).filter fun t => Tryd.prog.rowNamed t [101, 114, 114, 111, 114]) = [25] := by kernel_rfl
theorem frame_size : Tryd.prog.types.size = 98 := by kernel_rfl
theorem handle_of_laid {W : World} (h : laidMetH Tryd.prog Rows.treeCayleyRow.laid W) : Handle W := by
  have h' : laidMet Tryd.prog [] W ∧ handlesMet Tryd.prog Rows.treeCayleyRow.laid W := h
  obtain ⟨name, u, ty, e1, e2, e3, e4, e5⟩ := h'.2 _ (List.mem_singleton.2 rfl)
  have en : name = [101, 114, 114, 111, 114] := (Option.some.inj e1).symm
  subst en
  obtain rfl := Option.some.inj (frame_rt.symm.trans e2)
  have hm : ty ∈ (List.range 98).filter fun t => Tryd.prog.rowNamed t [101, 114, 114, 111, 114] := List.mem_filter.2 ⟨List.mem_range.2 (by rw [← frame_size]; exact e3), e4⟩
  rw [frame_oneRow] at hm
  obtain rfl := List.mem_singleton.1 hm
  have hh : typeHandle Tryd.prog 25 = .pointer (some ⟨1, 25, none⟩) := by kernel_rfl
  rw [hh] at e5
  unfold Handle
  simpa using World.var?_cell frame_et e5 0
noncomputable def laidWorld (os : Os) : World :=
  let w0 := World.holding Tryd.prog os ⟨#[], #[], []⟩
  { w0 with heap := w0.heap.modify 0 fun
      | .cells _ t frozen => .cells #[.iface 55 (.agg #[.pointer (some ⟨1, 25, none⟩)])] t frozen
      | o => o }
theorem laidWorld_met (os : Os) (args : Array Value) : laidMetH Tryd.prog Rows.treeCayleyRow.laid ((laidWorld os).forCall (fun _ _ => 0) ⟨#[], args, []⟩).memory :=
  laidMetH_of_parts (laidMet_nil _ _) (by kernel_rfl)
set_option maxRecDepth 100000 in
theorem frame_lifted (os : Os) (started : os.Started) (H : Type) (enc : TypeId × Value → H) :
    ReturnsInHanded {} Tryd.checked os 3 .any (fun w args => (Rows.treeCayleySpec.pre enc Tryd.prog Tryd.f3 Rows.treeCayleyRow.domain false w args ∧ laidMetH Tryd.prog Rows.treeCayleyRow.laid w) ∧ sizedMet enc Tryd.prog Tryd.f3 (OpenSpec.ofChange Rows.treeCayleySpec) false w args) (Rows.treeCayleySpec.post enc Tryd.prog Tryd.f3 false true false false) := by
  refine returnsInHanded_of_change_and (C := Tryd.checked) (X := (fun w _ => laidMetH Tryd.prog Rows.treeCayleyRow.laid w)) (fun _ _ _ hh h => h.of_heap hh) frame_own started (by kernel_rfl) Tryd.func3
    (ChangeSpec.witness_at (enc := enc) (C := Tryd.checked) (os := os) (X := (fun w _ => laidMetH Tryd.prog Rows.treeCayleyRow.laid w)) false (laidWorld os) #[.int .i64 0] 8 rfl (by kernel_rfl) (by kernel_rfl) (by kernel_rfl) (by kernel_rfl) (by kernel_rfl) (laidWorld_met os _)) ?_
  intro W base args ds gs before hval0 hW hcnd _ hLaid _
  have hval : ∀ (j : Nat) t v, Tryd.f3.params[j]? = some t → args[j]? = some v → Value.okWide Tryd.prog W .any base t v := hval0
  have hW' := hW
  obtain ⟨p, q, hA0, hV, rfl, hfz, hnd⟩ := hW
  have hA : DataW.TrodAll enc Tryd.prog W 0 (fun _ => true) true Tryd.f3.params.toList args.toList ds p := hA0
  rw [Tryd.params3] at hA hval
  obtain ⟨v0, vs0, d0, ds0, p0, q0, hargs, rfl, rfl, h0, r0⟩ := trodAll_cons hA
  obtain ⟨rfl, rfl, rfl⟩ := trodAll_nil r0
  obtain rfl : args = #[v0] := by cases args; simp_all
  obtain ⟨rfl, rfl⟩ := trodVars_none hV
  have k0 := h0
  have lt0 : ∀ x ∈ p0, x.block < W.heap.size := by obtain ⟨m, hm⟩ := k0; exact DataW.trod_lt m _ _ _ hm
  obtain ⟨a0, rfl, rfl, rfl, w0⟩ := open_int Tryd.underlying3 (hval 0 3 v0 rfl rfl) h0
  clear hA0 hval0
  refine (TreeCayley_any a0 W (handle_of_laid hLaid)).mono fun e W' ⟨he, bel⟩ => ?_
  subst he
  exact ⟨_, rfl, _, _, _, [], _, [], hW', trodAll_mk1 (shut_bool Tryd.underlying4 _), (trodAll_cons_mk (Below.trod frame_laid (by kernel_rfl) (of_decide_eq_true (by kernel_rfl)) k0 bel lt0) trodAll_mk0), rfl, bel.frame _, fun h => by cases h⟩

theorem TreeCayley_over : Rows.treeCayleyRow.holds Tryd.pinned (OpenSpec.ofChange Rows.treeCayleySpec) :=
  OpenClaim.holds_of_wide 3 Tryd.f3 rfl rfl rfl rfl rfl rfl rfl ⟨rfl, rfl, rfl, rfl, rfl⟩ rfl rfl rfl rfl rfl (by kernel_rfl) Tryd.func3 (by kernel_rfl)
    (of_decide_eq_true (by kernel_rfl)) (by unfold Func.isWrapper; first | (rw [if_pos (by decide +kernel)]; kernel_rfl) | (rw [if_neg (by decide +kernel)]; exact ⟨rfl, rfl⟩))
    (fun os started H enc _ => frame_lifted os started H enc)

theorem frame_wants : ∀ t ∈ [3], Tryd.prog.wantsStandIn t = false := by
  intro t ht
  simp only [List.mem_cons, List.not_mem_nil, or_false] at ht
  subst ht; kernel_rfl
/-- THE STATEMENT: THE TIED CARD -/
theorem TreeCayley_holds : Rows.TreeCayleyCardSaid :=
  Claim7.holds_tied_plain_at .later [] [.handle] true _ true
    TreeCayley_over (fun _ h => by cases h) (by kernel_rfl) (fun _ h => by cases h) treeCayley_row_tie rfl ⟨rfl, rfl⟩ (by kernel_rfl) rfl
    (fun f fn hf hfn => by
      obtain rfl : f = 3 := Option.some.inj ((show Tryd.prog.funcNamed "rankmere/rankmerelaw4.TreeCayley" = some 3 by kernel_rfl).symm.trans hf) |>.symm
      obtain rfl : fn = Tryd.f3 := (Option.some.inj (Tryd.func3.symm.trans hfn)).symm
      exact ⟨by kernel_rfl, fun j t ht => by
        rw [Tryd.params3] at ht
        exact frame_wants t (by have := Array.mem_of_getElem? ht; simpa using this)⟩)
    (by kernel_rfl)
end Go.Proofs.YtikghgpnjeaebaaDoor.TreeCayleyP
