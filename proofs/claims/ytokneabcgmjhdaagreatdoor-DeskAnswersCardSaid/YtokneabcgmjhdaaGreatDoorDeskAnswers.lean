/- The contract of the reference's Session, and the law: rankmerelaw4.DeskAnswers, called with any text, returns true, and leaves its argument as it was. The one condition: the variables of the library that its row lists are as the program's text lays them; the card ties them. -/
import Derived.Test.YtokneabcgmjhdaaGreatDoorRefAns
import Derived.Test.YtokneabcgmjhdaaGreatDoorDeskRun
import Derived.Test.YtokneabcgmjhdaaGreatDoorDeskFact
import Derived.Test.YtokneabcgmjhdaaGreatDoorFrameS
import Derived.Test.YtokneabcgmjhdaaGreatDoorTie
import Derived.Test.YtokneabcgmjhdaaGreatDoorCards
import Derived.ProofKit
import Derived.OpenShut
import Derived.ShutString
import Derived.ChangeOld
import Derived.ChangeVars
import Derived.Lib.SmallJoins
import Derived.LaidLaws
import Derived.LaidMore
import Derived.Stop.Joined
import Derived.SevenTiedAt
import Derived.Lib.LaidU8
import Derived.MakeChecks
import Derived.LaidSub
namespace Go.Proofs.YtokneabcgmjhdaaGreatDoor
open Go.RowKit
set_option linter.unusedVariables false
set_option linter.unusedSimpArgs false

theorem take_drop_snoc {l : List UInt8} {f j : Nat} (hf : f ≤ j) (hj : j < l.length) : (l.drop f).take (j + 1 - f) = (l.drop f).take (j - f) ++ [l.getD j 0] := by
  rw [show j + 1 - f = (j - f) + 1 by omega, List.take_add_one, List.getElem?_drop, show f + (j - f) = j by omega, List.getElem?_eq_getElem hj, List.getD_eq_getElem?_getD, List.getElem?_eq_getElem hj]
  rfl
theorem line_end {l : List UInt8} {f j : Nat} (hf : f ≤ j) (hfl : f < l.length) (hno : (10 : UInt8) ∉ (l.drop f).take (j - f)) (hj : j = l.length ∨ (j < l.length ∧ l.getD j 0 = 10)) : slines (l.drop f) = (l.drop f).take (j - f) :: slines (l.drop (j + 1)) := by
  rcases hj with hj | ⟨hj, hb⟩
  · have e : (l.drop f).take (j - f) = l.drop f := List.take_of_length_le (by rw [List.length_drop]; omega)
    rw [e] at hno ⊢
    rw [List.drop_eq_nil_of_le (show l.length ≤ j + 1 by omega), slines_nil]
    exact slines_free hno (fun e => by have := congrArg List.length e; rw [List.length_drop] at this; simp at this; omega)
  · have e : l.drop f = (l.drop f).take (j - f) ++ 10 :: l.drop (j + 1) := by
      conv => lhs; rw [← List.take_append_drop (j - f) (l.drop f)]
      rw [List.drop_drop, show f + (j - f) = j by omega, List.drop_eq_getElem_cons hj]
      rw [List.getD_eq_getElem?_getD, List.getElem?_eq_getElem hj, Option.getD_some] at hb
      rw [hb]
    conv => lhs; rw [e]
    exact slines_app _ hno
theorem piece_list (t : ByteArray) (l : List UInt8) (hl : l = t.data.toList) (f j : Nat) (hf : f ≤ j) : (t.extract f j).data.toList = (l.drop f).take (j - f) := by
  rw [extract_ba t hl f j hf, ba_toList, List.drop_take]
set_option maxRecDepth 100000 in
set_option maxHeartbeats 16000000 in
theorem RSession_any (t : ByteArray) (w : World) :
    Calls Tryz.prog 9 #[.string t] w fun e w' => e = .returned (.string (ba (sessE t.data.toList))) ∧ Below w.heap.size w w' := by
  by_cases hl : 3000 < t.size
  · have hE : sessE t.data.toList = kLong := if_pos (by rw [size_list]; exact hl)
    rw [hE]
    have hli : (3000 : Int) < t.size := by omega
    clear hE
    go_enter Tryz.func9, Tryz.ntmps9
    go_wp2_with fail
    go_ret
    exact ⟨rfl, Below.refl _ _⟩
  · have hli : ¬ (3000 : Int) < t.size := by omega
    have hE : sessE t.data.toList = (sessR (slines t.data.toList) (zeros4, [])).1 := if_neg (by rw [size_list]; exact hl)
    obtain ⟨l, hll⟩ : ∃ l, l = t.data.toList := ⟨_, rfl⟩
    have hlen : l.length = t.size := by rw [hll, size_list]
    rw [hE, ← hll]
    have HL := Lib.hid hll
    have HLEN := Lib.hid hlen
    clear hE hll hlen
    go_enter Tryz.func9, Tryz.ntmps9
    go_wp2_with fail
    go_at_call 21
    refine (RNew_any _).mono ?_
    rintro e w1 ⟨⟨v, rfl, hR⟩, hb1⟩
    obtain ⟨ra, rc, rfl, hrc, hro⟩ := hR
    have hR : RefIs w1 w.heap.size (refV ra rc (textOf (zeros4, ([] : List ByteArray)).2) (zeros4, ([] : List ByteArray)).2.length) (zeros4, []) := ⟨ra, rc, rfl, hrc, hro⟩
    go_upto_region 4 with (fail)
    have hx2 : (w1.alloc (.cells #[.slice ra 4 rc, .string (textOf []), .int .i64 0] 48)).heap[w1.heap.size]? = some (.cells #[.slice ra 4 rc, .string (textOf []), .int .i64 0] 48 (0, 0)) := heap_alloc_new _ _
    have hal : Below w1.heap.size w1 (w1.alloc (.cells #[.slice ra 4 rc, .string (textOf []), .int .i64 0] 48)) := (Below.refl _ _).alloc (Nat.le_refl _) _
    have hR2 := hR.call hal
    have hb2 := below_trans hb1 hal
    have hs1 := hb1.size
    obtain ⟨X, hX⟩ : ∃ X, X = w1.heap.size := ⟨_, rfl⟩
    rw [← hX] at hx2 hs1 ⊢
    generalize w1.alloc (.cells #[.slice ra 4 rc, .string (textOf []), .int .i64 0] 48) = w2 at *
    have HX2 := Lib.hid hx2
    have HR2 := Lib.hid hR2
    clear hX hal hR hro hx2 hR2 hb1
    go_wp2_with fail
    go_loopg [4, 5] (t.size + 2) (fun g ov fv wr => ∃ (f : Nat) (O : ByteArray) (acc : List UInt8) (st : BS) (ra : Option Addr) (rc : Nat), f ≤ t.size + 1 ∧ t.size + 1 - f < g ∧ fv = .int .i64 f ∧ ov = .string O ∧ O = ba acc ∧ O.size ≤ 11 * f ∧ DeskOk st ∧ (sessR (slines l) (zeros4, [])).1 = acc ++ (sessR (slines (l.drop f)) st).1 ∧ RefIs wr w.heap.size (refV ra rc (textOf st.2) st.2.length) st ∧ wr.heap[X]? = some (.cells #[.slice ra 4 rc, .string (textOf st.2), .int .i64 (st.2.length : Nat)] 48 (0, 0)) ∧ Below w.heap.size w wr)
    case atStart => exact ⟨0, _, [], (zeros4, []), ra, rc, by omega, by omega, rfl, rfl, rfl, by decide, DeskOk.zero, rfl, HR2.out, HX2.out, hb2⟩
    case round =>
      clear HX2 HR2 hb2 hrc
      obtain ⟨f, O, acc, st, ra, rc, hf, hg, rfl, rfl, hO, hOs, hok, hrun, hR, hx, hbel⟩ := hrel
      obtain ⟨x0, x1, x2⟩ := cells3 hx
      have lX := (Array.getElem?_eq_some_iff.1 hx).1
      have HXX := Lib.hid hx
      have HR := Lib.hid hR
      have HRUN := Lib.hid hrun
      have HO := Lib.hid hO
      have HOK := Lib.hid hok
      have HBEL := Lib.hid hbel
      clear hx hR hrun hO hok hbel
      by_cases hft : f < t.size
      · have hfi : (f : Int) < t.size := by omega
        have hf0 : (0 : Int) ≤ f := by omega
        go_wp2_with fail
        go_loopg [6] (t.size + 1) (fun g iv wq => ∃ j : Nat, f ≤ j ∧ j ≤ t.size ∧ t.size - j < g ∧ iv = .int .i64 j ∧ (10 : UInt8) ∉ (l.drop f).take (j - f) ∧ wq = wr)
        case atStart => exact ⟨f, Nat.le_refl _, by omega, by omega, rfl, by rw [Nat.sub_self, List.take_zero]; simp, rfl⟩
        case round =>
          obtain ⟨j, hfj, hjt, hgj, rfl, hno, rfl⟩ := hrel
          have hj0 : (0 : Int) ≤ j := by omega
          have hji2 : (j : Int) ≤ t.size := by omega
          have hfji : (f : Int) ≤ j := by omega
          by_cases hlt : j < t.size
          · have hji : (j : Int) < t.size := by omega
            have hbk := byte_get t l HL.out hlt
            have bb := @byte_beq (t[j]'hlt) 10
            rw [show ((10 : UInt8).toNat : Int) = 10 from rfl] at bb
            rcases bb with ⟨b1, b2, b3⟩ | ⟨b1, b2, b3⟩
            · have hend := line_end hfj (by rw [HLEN.out]; exact hft) hno (Or.inr ⟨by rw [HLEN.out]; exact hlt, by rw [← hbk]; exact b3⟩)
              clear hbk b3
              have hrun := HRUN.out
              rw [hend, sessR] at hrun
              have hpc := piece_list t l HL.out f j hfj
              have hps : (t.extract f j).size ≤ 3000 := by rw [← size_list, hpc, List.length_take, List.length_drop, HLEN.out]; omega
              have hA := fun W (h : Below wr.heap.size wr W) => RAnswer_any (t.extract f j) W w.heap.size _ st HOK.out (HR.out.call h) (Nat.le_trans HBEL.out.size h.size) hps
              have hal := answerE_len HOK.out (t.extract f j).data.toList
              have hok2 := HOK.out.answer (t.extract f j).data.toList
              rw [← hpc] at hrun
              obtain ⟨ans, hans⟩ : ∃ z, z = (answerE (t.extract f j).data.toList st).1 := ⟨_, rfl⟩
              obtain ⟨st2, hst2⟩ : ∃ z, z = (answerE (t.extract f j).data.toList st).2 := ⟨_, rfl⟩
              rw [← hans, ← hst2] at hA hrun
              rw [← hans] at hal
              rw [← hst2] at hok2
              obtain ⟨Z, hZ⟩ : ∃ Z, Z = ba ans := ⟨_, rfl⟩
              have hZs : Z.size ≤ 10 := by rw [hZ, ba_size]; exact hal
              rw [← hZ] at hA
              have HA := Lib.hid hA
              have HRUN2 := Lib.hid hrun
              have HOK2 := Lib.hid hok2
              have HZ := Lib.hid hZ
              have HSS := Lib.hid (fun W (h : Below wr.heap.size wr W) => (show W.cell? ⟨X, 0, none⟩ = some (.slice ra 4 rc) ∧ W.cell? ⟨X, 1, none⟩ = some (.string (textOf st.2)) ∧ W.cell? ⟨X, 2, none⟩ = some (.int .i64 (st.2.length : Nat)) from
                ⟨(h.cell (p := ⟨X, 0, none⟩) lX).trans x0, (h.cell (p := ⟨X, 1, none⟩) lX).trans x1, (h.cell (p := ⟨X, 2, none⟩) lX).trans x2⟩))
              have hAL : ∀ o, Below wr.heap.size wr ((wr.alloc o).drew) := fun o => ((Below.refl _ _).alloc (Nat.le_refl _) o).trans Cls.start
              clear hend hrun hpc hps hA hal hok2 hans hst2 hZ hno
              go_upto_region 10 with (fail)
              refine wp_region_held_drew (S := fun w' => w'.cell? ⟨X, 0, none⟩ = some (.slice ra 4 rc) ∧ w'.cell? ⟨X, 1, none⟩ = some (.string (textOf st.2)) ∧ w'.cell? ⟨X, 2, none⟩ = some (.int .i64 (st.2.length : Nat))) (by kernel_rfl) (HSS.out _ Cls.start) (fun hHeld => ?_)
              refine wpAnyH_take (i := 0) (v := ?_) rfl (by kernel_rfl) (by kernel_rfl) (by kernel_rfl) (fun _ _ _ h => h) (Or.inl ⟨by rfl, ?_⟩) (by assumption) ?_
              rotate_left
              · (intro w hSw; (try dsimp only at hSw); go_simp; try with_reducible rfl)
              rotate_left
              (try simp only [Act.put, List.setIfInBounds_toArray, List.set_cons_zero, List.set_cons_succ])
              refine wpAnyH_take (i := 1) (v := ?_) rfl (by kernel_rfl) (by kernel_rfl) (by kernel_rfl) (fun _ _ _ h => h) (Or.inl ⟨by rfl, ?_⟩) (by assumption) ?_
              rotate_left
              · (intro w hSw; (try dsimp only at hSw); go_simp; try with_reducible rfl)
              rotate_left
              (try simp only [Act.put, List.setIfInBounds_toArray, List.set_cons_zero, List.set_cons_succ])
              refine wpAnyH_take (i := 2) (v := ?_) rfl (by kernel_rfl) (by kernel_rfl) (by kernel_rfl) (fun _ _ _ h => h) (Or.inl ⟨by rfl, ?_⟩) (by assumption) ?_
              rotate_left
              · (intro w hSw; (try dsimp only at hSw); go_simp; try with_reducible rfl)
              rotate_left
              (try simp only [Act.put, List.setIfInBounds_toArray, List.set_cons_zero, List.set_cons_succ])
              refine wpAnyH_take (i := 3) (v := ?_) rfl (by kernel_rfl) (by kernel_rfl) (by kernel_rfl) (fun _ _ _ h => h) (Or.inl ⟨by rfl, ?_⟩) (by assumption) ?_
              rotate_left
              · (intro w hSw; (try dsimp only at hSw); go_simp; try with_reducible rfl)
              rotate_left
              (try simp only [Act.put, List.setIfInBounds_toArray, List.set_cons_zero, List.set_cons_succ])
              refine wpAnyH_take (i := 4) (v := ?_) rfl (by kernel_rfl) (by kernel_rfl) (by kernel_rfl) (fun _ _ _ h => h) (Or.inl ⟨by rfl, ?_⟩) (by assumption) ?_
              rotate_left
              · (intro w hSw; (try dsimp only at hSw); go_simp; try with_reducible rfl)
              rotate_left
              (try simp only [Act.put, List.setIfInBounds_toArray, List.set_cons_zero, List.set_cons_succ])
              refine wpAnyH_ready (rs := [5, 9]) (by kernel_rfl) (by simp) ?_
              refine AllReadyH.cons rfl (fun K hK => ?_) (AllReadyH.cons rfl (fun K hK => ?_) AllReadyH.nil)
              · go_simp
                go_at_call 22
                refine (HA.out _ (by exact Cls.start)).mono ?_
                rintro e w6 ⟨⟨v6, rfl, hR6⟩, hb6⟩
                obtain ⟨ra6, rc6, rfl, hrc6, hro6⟩ := hR6
                have d1 : Below wr.heap.size wr w6 := below_trans (by exact Cls.start) hb6
                (try go_simp)
                refine hK.out _ _ (HSS.out _ d1) (fun hHeld => ?_)
                clear hK K
                (try simp only [Act.put, List.setIfInBounds_toArray, List.set_cons_zero, List.set_cons_succ])
                have d2 : Below wr.heap.size wr (w6.alloc (boxO (.slice none 0 0))) := d1.alloc d1.size _
                have d3 : Below wr.heap.size wr (w6.alloc (.cells #[.slice ra6 4 rc6, .string (textOf st2.2), .int .i64 (st2.2.length : Nat)] 48)) := d1.alloc d1.size _
                refine wpAnyH_take (i := 6) (v := ?_) rfl (by kernel_rfl) (by kernel_rfl) (by kernel_rfl) (fun _ _ _ h => h) (Or.inl ⟨by rfl, ?_⟩) (by assumption) ?_
                rotate_left
                · (intro w hSw; (try dsimp only at hSw); go_simp; try with_reducible rfl)
                rotate_left
                (try simp only [Act.put, List.setIfInBounds_toArray, List.set_cons_zero, List.set_cons_succ])
                refine wpAnyH_take (i := 7) (v := ?_) rfl (by kernel_rfl) (by kernel_rfl) (by kernel_rfl) (fun _ _ _ h => h) (Or.inl ⟨by rfl, ?_⟩) (by assumption) ?_
                rotate_left
                · (intro w hSw; (try dsimp only at hSw); go_simp; try with_reducible rfl)
                rotate_left
                (try simp only [Act.put, List.setIfInBounds_toArray, List.set_cons_zero, List.set_cons_succ])
                refine wpAnyH_take (i := 8) (v := ?_) rfl (by kernel_rfl) (by kernel_rfl) (by kernel_rfl) (fun _ _ _ h => h) (Or.inl ⟨by rfl, ?_⟩) (by assumption) ?_
                rotate_left
                · (intro w hSw; (try dsimp only at hSw); go_simp; try with_reducible rfl)
                rotate_left
                (try simp only [Act.put, List.setIfInBounds_toArray, List.set_cons_zero, List.set_cons_succ])
                refine wpAnyH_ready (rs := [9]) (by kernel_rfl) (by simp) ?_
                refine AllReadyH.cons rfl (fun K hK => ?_) AllReadyH.nil
                go_simp
                (try go_simp)
                refine hK.out _ _ (HSS.out _ d2) (fun hHeld => ?_)
                clear hK K
                (try simp only [Act.put, List.setIfInBounds_toArray, List.set_cons_zero, List.set_cons_succ])
                refine wpAnyH_ready (rs := [10]) (by kernel_rfl) (by simp) ?_
                refine AllReadyH.cons rfl (fun K hK => ?_) AllReadyH.nil
                go_simp
                (try go_simp)
                refine hK.out _ _ (HSS.out _ d3) (fun hHeld => ?_)
                clear hK K
                (try simp only [Act.put, List.setIfInBounds_toArray, List.set_cons_zero, List.set_cons_succ])
                refine wpAnyH_take (i := 11) (v := ?_) rfl (by kernel_rfl) (by kernel_rfl) (by kernel_rfl) (fun _ _ _ h => h) (Or.inl ⟨by rfl, ?_⟩) (by assumption) ?_
                rotate_left
                · (intro w hSw; (try dsimp only at hSw); go_simp; try with_reducible rfl)
                rotate_left
                (try simp only [Act.put, List.setIfInBounds_toArray, List.set_cons_zero, List.set_cons_succ])
                refine wpAnyH_done (by kernel_rfl) ?_ _
                have hR6 : RefIs w6 w.heap.size (refV ra6 rc6 (textOf st2.2) st2.2.length) st2 := ⟨ra6, rc6, rfl, hrc6, hro6⟩
                have hal : Below w6.heap.size w6 (w6.alloc (.cells #[.slice ra6 4 rc6, .string (textOf st2.2), .int .i64 (st2.2.length : Nat)] 48)) := (Below.refl _ _).alloc (Nat.le_refl _) _
                have hR7 := hR6.call hal
                have hc7 : (w6.alloc (.cells #[.slice ra6 4 rc6, .string (textOf st2.2), .int .i64 (st2.2.length : Nat)] 48)).heap[w6.heap.size]? = some (.cells #[.slice ra6 4 rc6, .string (textOf st2.2), .int .i64 (st2.2.length : Nat)] 48 (0, 0)) := heap_alloc_new _ _
                obtain ⟨c, hc⟩ : ∃ c, c = w6.heap.size := ⟨_, rfl⟩
                rw [← hc] at hc7 ⊢
                generalize w6.alloc (.cells #[.slice ra6 4 rc6, .string (textOf st2.2), .int .i64 (st2.2.length : Nat)] 48) = W7 at *
                clear hc hal hR6 d1 d2 hro6 hrc6 hb6 hHeld
                have hx7 := later_block (W := wr) d3 HXX.out
                obtain ⟨c0, c1, c2⟩ := cells3 hc7
                obtain ⟨m0, m1, m2⟩ := cells3 hx7
                obtain ⟨k0, k1, k2⟩ := free3 hx7
                have HR7 := Lib.hid hR7
                have HX7 := Lib.hid hx7
                have HB7 := Lib.hid (HBEL.out.trans (d3.mono HBEL.out.size))
                clear hR7 hx7 hc7 d3 hAL HSS HA
                go_wp2_with fail
                go_roundg (t.size + 1 - f)
                case measure => omega
                case rel =>
                  exact ⟨j + 1, _, acc ++ (ans ++ [10]), st2, ra6, rc6, by omega, by omega, by go_num, rfl, by rw [HO.out, HZ.out, show (⟨#[10]⟩ : ByteArray) = ba [10] from rfl, ba_app, ba_app, List.append_assoc], by rw [ByteArray.size_append, ByteArray.size_append]; show _ + _ + 1 ≤ _; omega, HOK2.out, by rw [HRUN2.out]; simp, HR7.out.other HX7.out (put3_grown W7 X _ _ _), box_store3 HX7.out, box_below3 HB7.out (by omega)⟩
              · go_simp
                refine hK.out _ _ (HSS.out _ (hAL _)) (fun hHeld => ?_)
                clear hK K
                (try simp only [Act.put, List.setIfInBounds_toArray, List.set_cons_zero, List.set_cons_succ])
                refine wpAnyH_ready (rs := [5]) (by kernel_rfl) (by simp) ?_
                refine AllReadyH.cons rfl (fun K hK => ?_) AllReadyH.nil
                go_simp
                go_at_call 22
                refine (HA.out _ (by exact hAL _)).mono ?_
                rintro e w6 ⟨⟨v6, rfl, hR6⟩, hb6⟩
                obtain ⟨ra6, rc6, rfl, hrc6, hro6⟩ := hR6
                have d1 : Below wr.heap.size wr w6 := below_trans (hAL _) hb6
                obtain ⟨o0, o1, o2, g0, g1, g2⟩ := open_fresh hb6
                (try go_simp)
                refine hK.out _ _ (HSS.out _ d1) (fun hHeld => ?_)
                clear hK K
                (try simp only [Act.put, List.setIfInBounds_toArray, List.set_cons_zero, List.set_cons_succ])
                have d3 : Below wr.heap.size wr (((w6.setCell ⟨wr.heap.size, 0, none⟩ (.slice ra6 4 rc6)).setCell ⟨wr.heap.size, 1, none⟩ (.string (textOf st2.2))).setCell ⟨wr.heap.size, 2, none⟩ (.int .i64 (st2.2.length : Nat))) := open_store3 d1
                refine wpAnyH_take (i := 6) (v := ?_) rfl (by kernel_rfl) (by kernel_rfl) (by kernel_rfl) (fun _ _ _ h => h) (Or.inl ⟨by rfl, ?_⟩) (by assumption) ?_
                rotate_left
                · (intro w hSw; (try dsimp only at hSw); go_simp; try with_reducible rfl)
                rotate_left
                (try simp only [Act.put, List.setIfInBounds_toArray, List.set_cons_zero, List.set_cons_succ])
                refine wpAnyH_take (i := 7) (v := ?_) rfl (by kernel_rfl) (by kernel_rfl) (by kernel_rfl) (fun _ _ _ h => h) (Or.inl ⟨by rfl, ?_⟩) (by assumption) ?_
                rotate_left
                · (intro w hSw; (try dsimp only at hSw); go_simp; try with_reducible rfl)
                rotate_left
                (try simp only [Act.put, List.setIfInBounds_toArray, List.set_cons_zero, List.set_cons_succ])
                refine wpAnyH_take (i := 8) (v := ?_) rfl (by kernel_rfl) (by kernel_rfl) (by kernel_rfl) (fun _ _ _ h => h) (Or.inl ⟨by rfl, ?_⟩) (by assumption) ?_
                rotate_left
                · (intro w hSw; (try dsimp only at hSw); go_simp; try with_reducible rfl)
                rotate_left
                (try simp only [Act.put, List.setIfInBounds_toArray, List.set_cons_zero, List.set_cons_succ])
                refine wpAnyH_ready (rs := [10]) (by kernel_rfl) (by simp) ?_
                refine AllReadyH.cons rfl (fun K hK => ?_) AllReadyH.nil
                go_simp
                (try go_simp)
                refine hK.out _ _ (HSS.out _ d3) (fun hHeld => ?_)
                clear hK K
                (try simp only [Act.put, List.setIfInBounds_toArray, List.set_cons_zero, List.set_cons_succ])
                refine wpAnyH_take (i := 11) (v := ?_) rfl (by kernel_rfl) (by kernel_rfl) (by kernel_rfl) (fun _ _ _ h => h) (Or.inl ⟨by rfl, ?_⟩) (by assumption) ?_
                rotate_left
                · (intro w hSw; (try dsimp only at hSw); go_simp; try with_reducible rfl)
                rotate_left
                (try simp only [Act.put, List.setIfInBounds_toArray, List.set_cons_zero, List.set_cons_succ])
                refine wpAnyH_done (by kernel_rfl) ?_ _
                have hR6 : RefIs w6 w.heap.size (refV ra6 rc6 (textOf st2.2) st2.2.length) st2 := ⟨ra6, rc6, rfl, hrc6, hro6⟩
                have hbx := open_box hb6
                have hR7 := hR6.other hbx (put3_grown w6 wr.heap.size (.slice ra6 4 rc6) (.string (textOf st2.2)) (.int .i64 (st2.2.length : Nat)))
                have hc7 := box_store3 (a := .slice ra6 4 rc6) (b' := .string (textOf st2.2)) (c := .int .i64 (st2.2.length : Nat)) hbx
                unfold put3 at hR7
                generalize ((w6.setCell ⟨wr.heap.size, 0, none⟩ (.slice ra6 4 rc6)).setCell ⟨wr.heap.size, 1, none⟩ (.string (textOf st2.2))).setCell ⟨wr.heap.size, 2, none⟩ (.int .i64 (st2.2.length : Nat)) = W7 at *
                obtain ⟨c, hc⟩ : ∃ c, c = wr.heap.size := ⟨_, rfl⟩
                rw [← hc] at hc7 ⊢
                clear hc hbx hR6 d1 hro6 hrc6 hb6 o0 o1 o2 g0 g1 g2
                have hx7 := later_block (W := wr) d3 HXX.out
                obtain ⟨c0, c1, c2⟩ := cells3 hc7
                obtain ⟨m0, m1, m2⟩ := cells3 hx7
                obtain ⟨k0, k1, k2⟩ := free3 hx7
                have HR7 := Lib.hid hR7
                have HX7 := Lib.hid hx7
                have HB7 := Lib.hid (HBEL.out.trans (d3.mono HBEL.out.size))
                clear hR7 hx7 hc7 d3 hAL HSS HA
                go_wp2_with fail
                go_roundg (t.size + 1 - f)
                case measure => omega
                case rel =>
                  exact ⟨j + 1, _, acc ++ (ans ++ [10]), st2, ra6, rc6, by omega, by omega, by go_num, rfl, by rw [HO.out, HZ.out, show (⟨#[10]⟩ : ByteArray) = ba [10] from rfl, ba_app, ba_app, List.append_assoc], by rw [ByteArray.size_append, ByteArray.size_append]; show _ + _ + 1 ≤ _; omega, HOK2.out, by rw [HRUN2.out]; simp, HR7.out.other HX7.out (put3_grown W7 X _ _ _), box_store3 HX7.out, box_below3 HB7.out (by omega)⟩
            · have hno2 : (10 : UInt8) ∉ (l.drop f).take (j + 1 - f) := by
                rw [take_drop_snoc hfj (by rw [HLEN.out]; exact hlt)]
                simp only [List.mem_append, List.mem_singleton, not_or]
                exact ⟨hno, fun e => b3 (by rw [hbk]; exact e.symm)⟩
              have HNO2 := Lib.hid hno2
              clear hno hno2 hbk b3
              go_wp2_with fail
              go_roundg (t.size - j)
              case measure => omega
              case rel => exact ⟨j + 1, by omega, by omega, by omega, by go_num, HNO2.out, rfl⟩
          · have hjn : ¬ (j : Int) < t.size := by omega
            have hend := line_end hfj (by rw [HLEN.out]; exact hft) hno (Or.inl (by rw [HLEN.out]; omega))
            have hrun := HRUN.out
            rw [hend, sessR] at hrun
            have hpc := piece_list t l HL.out f j hfj
            have hps : (t.extract f j).size ≤ 3000 := by rw [← size_list, hpc, List.length_take, List.length_drop, HLEN.out]; omega
            have hA := fun W (h : Below wr.heap.size wr W) => RAnswer_any (t.extract f j) W w.heap.size _ st HOK.out (HR.out.call h) (Nat.le_trans HBEL.out.size h.size) hps
            have hal := answerE_len HOK.out (t.extract f j).data.toList
            have hok2 := HOK.out.answer (t.extract f j).data.toList
            rw [← hpc] at hrun
            obtain ⟨ans, hans⟩ : ∃ z, z = (answerE (t.extract f j).data.toList st).1 := ⟨_, rfl⟩
            obtain ⟨st2, hst2⟩ : ∃ z, z = (answerE (t.extract f j).data.toList st).2 := ⟨_, rfl⟩
            rw [← hans, ← hst2] at hA hrun
            rw [← hans] at hal
            rw [← hst2] at hok2
            obtain ⟨Z, hZ⟩ : ∃ Z, Z = ba ans := ⟨_, rfl⟩
            have hZs : Z.size ≤ 10 := by rw [hZ, ba_size]; exact hal
            rw [← hZ] at hA
            have HA := Lib.hid hA
            have HRUN2 := Lib.hid hrun
            have HOK2 := Lib.hid hok2
            have HZ := Lib.hid hZ
            have HSS := Lib.hid (fun W (h : Below wr.heap.size wr W) => (show W.cell? ⟨X, 0, none⟩ = some (.slice ra 4 rc) ∧ W.cell? ⟨X, 1, none⟩ = some (.string (textOf st.2)) ∧ W.cell? ⟨X, 2, none⟩ = some (.int .i64 (st.2.length : Nat)) from
              ⟨(h.cell (p := ⟨X, 0, none⟩) lX).trans x0, (h.cell (p := ⟨X, 1, none⟩) lX).trans x1, (h.cell (p := ⟨X, 2, none⟩) lX).trans x2⟩))
            have hAL : ∀ o, Below wr.heap.size wr ((wr.alloc o).drew) := fun o => ((Below.refl _ _).alloc (Nat.le_refl _) o).trans Cls.start
            clear hend hrun hpc hps hA hal hok2 hans hst2 hZ hno
            go_upto_region 10 with (fail)
            refine wp_region_held_drew (S := fun w' => w'.cell? ⟨X, 0, none⟩ = some (.slice ra 4 rc) ∧ w'.cell? ⟨X, 1, none⟩ = some (.string (textOf st.2)) ∧ w'.cell? ⟨X, 2, none⟩ = some (.int .i64 (st.2.length : Nat))) (by kernel_rfl) (HSS.out _ Cls.start) (fun hHeld => ?_)
            refine wpAnyH_take (i := 0) (v := ?_) rfl (by kernel_rfl) (by kernel_rfl) (by kernel_rfl) (fun _ _ _ h => h) (Or.inl ⟨by rfl, ?_⟩) (by assumption) ?_
            rotate_left
            · (intro w hSw; (try dsimp only at hSw); go_simp; try with_reducible rfl)
            rotate_left
            (try simp only [Act.put, List.setIfInBounds_toArray, List.set_cons_zero, List.set_cons_succ])
            refine wpAnyH_take (i := 1) (v := ?_) rfl (by kernel_rfl) (by kernel_rfl) (by kernel_rfl) (fun _ _ _ h => h) (Or.inl ⟨by rfl, ?_⟩) (by assumption) ?_
            rotate_left
            · (intro w hSw; (try dsimp only at hSw); go_simp; try with_reducible rfl)
            rotate_left
            (try simp only [Act.put, List.setIfInBounds_toArray, List.set_cons_zero, List.set_cons_succ])
            refine wpAnyH_take (i := 2) (v := ?_) rfl (by kernel_rfl) (by kernel_rfl) (by kernel_rfl) (fun _ _ _ h => h) (Or.inl ⟨by rfl, ?_⟩) (by assumption) ?_
            rotate_left
            · (intro w hSw; (try dsimp only at hSw); go_simp; try with_reducible rfl)
            rotate_left
            (try simp only [Act.put, List.setIfInBounds_toArray, List.set_cons_zero, List.set_cons_succ])
            refine wpAnyH_take (i := 3) (v := ?_) rfl (by kernel_rfl) (by kernel_rfl) (by kernel_rfl) (fun _ _ _ h => h) (Or.inl ⟨by rfl, ?_⟩) (by assumption) ?_
            rotate_left
            · (intro w hSw; (try dsimp only at hSw); go_simp; try with_reducible rfl)
            rotate_left
            (try simp only [Act.put, List.setIfInBounds_toArray, List.set_cons_zero, List.set_cons_succ])
            refine wpAnyH_take (i := 4) (v := ?_) rfl (by kernel_rfl) (by kernel_rfl) (by kernel_rfl) (fun _ _ _ h => h) (Or.inl ⟨by rfl, ?_⟩) (by assumption) ?_
            rotate_left
            · (intro w hSw; (try dsimp only at hSw); go_simp; try with_reducible rfl)
            rotate_left
            (try simp only [Act.put, List.setIfInBounds_toArray, List.set_cons_zero, List.set_cons_succ])
            refine wpAnyH_ready (rs := [5, 9]) (by kernel_rfl) (by simp) ?_
            refine AllReadyH.cons rfl (fun K hK => ?_) (AllReadyH.cons rfl (fun K hK => ?_) AllReadyH.nil)
            · go_simp
              go_at_call 22
              refine (HA.out _ (by exact Cls.start)).mono ?_
              rintro e w6 ⟨⟨v6, rfl, hR6⟩, hb6⟩
              obtain ⟨ra6, rc6, rfl, hrc6, hro6⟩ := hR6
              have d1 : Below wr.heap.size wr w6 := below_trans (by exact Cls.start) hb6
              (try go_simp)
              refine hK.out _ _ (HSS.out _ d1) (fun hHeld => ?_)
              clear hK K
              (try simp only [Act.put, List.setIfInBounds_toArray, List.set_cons_zero, List.set_cons_succ])
              have d2 : Below wr.heap.size wr (w6.alloc (boxO (.slice none 0 0))) := d1.alloc d1.size _
              have d3 : Below wr.heap.size wr (w6.alloc (.cells #[.slice ra6 4 rc6, .string (textOf st2.2), .int .i64 (st2.2.length : Nat)] 48)) := d1.alloc d1.size _
              refine wpAnyH_take (i := 6) (v := ?_) rfl (by kernel_rfl) (by kernel_rfl) (by kernel_rfl) (fun _ _ _ h => h) (Or.inl ⟨by rfl, ?_⟩) (by assumption) ?_
              rotate_left
              · (intro w hSw; (try dsimp only at hSw); go_simp; try with_reducible rfl)
              rotate_left
              (try simp only [Act.put, List.setIfInBounds_toArray, List.set_cons_zero, List.set_cons_succ])
              refine wpAnyH_take (i := 7) (v := ?_) rfl (by kernel_rfl) (by kernel_rfl) (by kernel_rfl) (fun _ _ _ h => h) (Or.inl ⟨by rfl, ?_⟩) (by assumption) ?_
              rotate_left
              · (intro w hSw; (try dsimp only at hSw); go_simp; try with_reducible rfl)
              rotate_left
              (try simp only [Act.put, List.setIfInBounds_toArray, List.set_cons_zero, List.set_cons_succ])
              refine wpAnyH_take (i := 8) (v := ?_) rfl (by kernel_rfl) (by kernel_rfl) (by kernel_rfl) (fun _ _ _ h => h) (Or.inl ⟨by rfl, ?_⟩) (by assumption) ?_
              rotate_left
              · (intro w hSw; (try dsimp only at hSw); go_simp; try with_reducible rfl)
              rotate_left
              (try simp only [Act.put, List.setIfInBounds_toArray, List.set_cons_zero, List.set_cons_succ])
              refine wpAnyH_ready (rs := [9]) (by kernel_rfl) (by simp) ?_
              refine AllReadyH.cons rfl (fun K hK => ?_) AllReadyH.nil
              go_simp
              (try go_simp)
              refine hK.out _ _ (HSS.out _ d2) (fun hHeld => ?_)
              clear hK K
              (try simp only [Act.put, List.setIfInBounds_toArray, List.set_cons_zero, List.set_cons_succ])
              refine wpAnyH_ready (rs := [10]) (by kernel_rfl) (by simp) ?_
              refine AllReadyH.cons rfl (fun K hK => ?_) AllReadyH.nil
              go_simp
              (try go_simp)
              refine hK.out _ _ (HSS.out _ d3) (fun hHeld => ?_)
              clear hK K
              (try simp only [Act.put, List.setIfInBounds_toArray, List.set_cons_zero, List.set_cons_succ])
              refine wpAnyH_take (i := 11) (v := ?_) rfl (by kernel_rfl) (by kernel_rfl) (by kernel_rfl) (fun _ _ _ h => h) (Or.inl ⟨by rfl, ?_⟩) (by assumption) ?_
              rotate_left
              · (intro w hSw; (try dsimp only at hSw); go_simp; try with_reducible rfl)
              rotate_left
              (try simp only [Act.put, List.setIfInBounds_toArray, List.set_cons_zero, List.set_cons_succ])
              refine wpAnyH_done (by kernel_rfl) ?_ _
              have hR6 : RefIs w6 w.heap.size (refV ra6 rc6 (textOf st2.2) st2.2.length) st2 := ⟨ra6, rc6, rfl, hrc6, hro6⟩
              have hal : Below w6.heap.size w6 (w6.alloc (.cells #[.slice ra6 4 rc6, .string (textOf st2.2), .int .i64 (st2.2.length : Nat)] 48)) := (Below.refl _ _).alloc (Nat.le_refl _) _
              have hR7 := hR6.call hal
              have hc7 : (w6.alloc (.cells #[.slice ra6 4 rc6, .string (textOf st2.2), .int .i64 (st2.2.length : Nat)] 48)).heap[w6.heap.size]? = some (.cells #[.slice ra6 4 rc6, .string (textOf st2.2), .int .i64 (st2.2.length : Nat)] 48 (0, 0)) := heap_alloc_new _ _
              obtain ⟨c, hc⟩ : ∃ c, c = w6.heap.size := ⟨_, rfl⟩
              rw [← hc] at hc7 ⊢
              generalize w6.alloc (.cells #[.slice ra6 4 rc6, .string (textOf st2.2), .int .i64 (st2.2.length : Nat)] 48) = W7 at *
              clear hc hal hR6 d1 d2 hro6 hrc6 hb6 hHeld
              have hx7 := later_block (W := wr) d3 HXX.out
              obtain ⟨c0, c1, c2⟩ := cells3 hc7
              obtain ⟨m0, m1, m2⟩ := cells3 hx7
              obtain ⟨k0, k1, k2⟩ := free3 hx7
              have HR7 := Lib.hid hR7
              have HX7 := Lib.hid hx7
              have HB7 := Lib.hid (HBEL.out.trans (d3.mono HBEL.out.size))
              clear hR7 hx7 hc7 d3 hAL HSS HA
              go_wp2_with fail
              go_roundg (t.size + 1 - f)
              case measure => omega
              case rel =>
                exact ⟨j + 1, _, acc ++ (ans ++ [10]), st2, ra6, rc6, by omega, by omega, by go_num, rfl, by rw [HO.out, HZ.out, show (⟨#[10]⟩ : ByteArray) = ba [10] from rfl, ba_app, ba_app, List.append_assoc], by rw [ByteArray.size_append, ByteArray.size_append]; show _ + _ + 1 ≤ _; omega, HOK2.out, by rw [HRUN2.out]; simp, HR7.out.other HX7.out (put3_grown W7 X _ _ _), box_store3 HX7.out, box_below3 HB7.out (by omega)⟩
            · go_simp
              refine hK.out _ _ (HSS.out _ (hAL _)) (fun hHeld => ?_)
              clear hK K
              (try simp only [Act.put, List.setIfInBounds_toArray, List.set_cons_zero, List.set_cons_succ])
              refine wpAnyH_ready (rs := [5]) (by kernel_rfl) (by simp) ?_
              refine AllReadyH.cons rfl (fun K hK => ?_) AllReadyH.nil
              go_simp
              go_at_call 22
              refine (HA.out _ (by exact hAL _)).mono ?_
              rintro e w6 ⟨⟨v6, rfl, hR6⟩, hb6⟩
              obtain ⟨ra6, rc6, rfl, hrc6, hro6⟩ := hR6
              have d1 : Below wr.heap.size wr w6 := below_trans (hAL _) hb6
              obtain ⟨o0, o1, o2, g0, g1, g2⟩ := open_fresh hb6
              (try go_simp)
              refine hK.out _ _ (HSS.out _ d1) (fun hHeld => ?_)
              clear hK K
              (try simp only [Act.put, List.setIfInBounds_toArray, List.set_cons_zero, List.set_cons_succ])
              have d3 : Below wr.heap.size wr (((w6.setCell ⟨wr.heap.size, 0, none⟩ (.slice ra6 4 rc6)).setCell ⟨wr.heap.size, 1, none⟩ (.string (textOf st2.2))).setCell ⟨wr.heap.size, 2, none⟩ (.int .i64 (st2.2.length : Nat))) := open_store3 d1
              refine wpAnyH_take (i := 6) (v := ?_) rfl (by kernel_rfl) (by kernel_rfl) (by kernel_rfl) (fun _ _ _ h => h) (Or.inl ⟨by rfl, ?_⟩) (by assumption) ?_
              rotate_left
              · (intro w hSw; (try dsimp only at hSw); go_simp; try with_reducible rfl)
              rotate_left
              (try simp only [Act.put, List.setIfInBounds_toArray, List.set_cons_zero, List.set_cons_succ])
              refine wpAnyH_take (i := 7) (v := ?_) rfl (by kernel_rfl) (by kernel_rfl) (by kernel_rfl) (fun _ _ _ h => h) (Or.inl ⟨by rfl, ?_⟩) (by assumption) ?_
              rotate_left
              · (intro w hSw; (try dsimp only at hSw); go_simp; try with_reducible rfl)
              rotate_left
              (try simp only [Act.put, List.setIfInBounds_toArray, List.set_cons_zero, List.set_cons_succ])
              refine wpAnyH_take (i := 8) (v := ?_) rfl (by kernel_rfl) (by kernel_rfl) (by kernel_rfl) (fun _ _ _ h => h) (Or.inl ⟨by rfl, ?_⟩) (by assumption) ?_
              rotate_left
              · (intro w hSw; (try dsimp only at hSw); go_simp; try with_reducible rfl)
              rotate_left
              (try simp only [Act.put, List.setIfInBounds_toArray, List.set_cons_zero, List.set_cons_succ])
              refine wpAnyH_ready (rs := [10]) (by kernel_rfl) (by simp) ?_
              refine AllReadyH.cons rfl (fun K hK => ?_) AllReadyH.nil
              go_simp
              (try go_simp)
              refine hK.out _ _ (HSS.out _ d3) (fun hHeld => ?_)
              clear hK K
              (try simp only [Act.put, List.setIfInBounds_toArray, List.set_cons_zero, List.set_cons_succ])
              refine wpAnyH_take (i := 11) (v := ?_) rfl (by kernel_rfl) (by kernel_rfl) (by kernel_rfl) (fun _ _ _ h => h) (Or.inl ⟨by rfl, ?_⟩) (by assumption) ?_
              rotate_left
              · (intro w hSw; (try dsimp only at hSw); go_simp; try with_reducible rfl)
              rotate_left
              (try simp only [Act.put, List.setIfInBounds_toArray, List.set_cons_zero, List.set_cons_succ])
              refine wpAnyH_done (by kernel_rfl) ?_ _
              have hR6 : RefIs w6 w.heap.size (refV ra6 rc6 (textOf st2.2) st2.2.length) st2 := ⟨ra6, rc6, rfl, hrc6, hro6⟩
              have hbx := open_box hb6
              have hR7 := hR6.other hbx (put3_grown w6 wr.heap.size (.slice ra6 4 rc6) (.string (textOf st2.2)) (.int .i64 (st2.2.length : Nat)))
              have hc7 := box_store3 (a := .slice ra6 4 rc6) (b' := .string (textOf st2.2)) (c := .int .i64 (st2.2.length : Nat)) hbx
              unfold put3 at hR7
              generalize ((w6.setCell ⟨wr.heap.size, 0, none⟩ (.slice ra6 4 rc6)).setCell ⟨wr.heap.size, 1, none⟩ (.string (textOf st2.2))).setCell ⟨wr.heap.size, 2, none⟩ (.int .i64 (st2.2.length : Nat)) = W7 at *
              obtain ⟨c, hc⟩ : ∃ c, c = wr.heap.size := ⟨_, rfl⟩
              rw [← hc] at hc7 ⊢
              clear hc hbx hR6 d1 hro6 hrc6 hb6 o0 o1 o2 g0 g1 g2
              have hx7 := later_block (W := wr) d3 HXX.out
              obtain ⟨c0, c1, c2⟩ := cells3 hc7
              obtain ⟨m0, m1, m2⟩ := cells3 hx7
              obtain ⟨k0, k1, k2⟩ := free3 hx7
              have HR7 := Lib.hid hR7
              have HX7 := Lib.hid hx7
              have HB7 := Lib.hid (HBEL.out.trans (d3.mono HBEL.out.size))
              clear hR7 hx7 hc7 d3 hAL HSS HA
              go_wp2_with fail
              go_roundg (t.size + 1 - f)
              case measure => omega
              case rel =>
                exact ⟨j + 1, _, acc ++ (ans ++ [10]), st2, ra6, rc6, by omega, by omega, by go_num, rfl, by rw [HO.out, HZ.out, show (⟨#[10]⟩ : ByteArray) = ba [10] from rfl, ba_app, ba_app, List.append_assoc], by rw [ByteArray.size_append, ByteArray.size_append]; show _ + _ + 1 ≤ _; omega, HOK2.out, by rw [HRUN2.out]; simp, HR7.out.other HX7.out (put3_grown W7 X _ _ _), box_store3 HX7.out, box_below3 HB7.out (by omega)⟩
      · have hfi : ¬ (f : Int) < t.size := by omega
        have hr := HRUN.out
        rw [List.drop_eq_nil_of_le (by rw [HLEN.out]; omega), slines_nil, sessR, List.append_nil] at hr
        have HRR := Lib.hid hr
        clear hr HRUN
        go_wp2_with fail
        go_ret
        rw [HRR.out, ← HO.out]
        exact ⟨rfl, HBEL.out⟩
end Go.Proofs.YtokneabcgmjhdaaGreatDoor


namespace Go.Proofs.YtokneabcgmjhdaaGreatDoor.DeskAnswersP
open Go.ChangeShapes Go.WideShapes Go.ChangeAt Go.RowKit Go.Joins
open Go.ChangeMaps (open_string shut_string)
open Go.Proofs.YtokneabcgmjhdaaGreatDoor
set_option linter.unusedVariables false
set_option linter.unusedSimpArgs false

set_option maxRecDepth 100000 in
set_option maxHeartbeats 4000000 in
theorem DeskAnswers_any (t : ByteArray) (ht : t.size ≤ maxLen) (w : World) (hG : Glob w.heap.size w) (hg : Handle w) :
    Calls Tryz.prog 3 #[.string t] w fun e w' => e = .returned (.bool true) ∧ Below w.heap.size w w' := by
  have hR := Run_any t w hG hg
  have hS := fun W => RSession_any t W
  generalize ba (sessE t.data.toList) = x at *
  have HS := Lib.hid hS
  clear hG hg hS
  go_enter Tryz.func3, Tryz.ntmps3
  go_wp2_with fail
  go_at_call 8
  refine (hR).mono ?_
  rintro e w1 ⟨rfl, hb1⟩
  clear hR
  go_wp2_with fail
  go_at_call 9
  refine (HS.out _).mono ?_
  rintro e w2 ⟨rfl, hb2⟩
  go_wp2_with fail
  go_ret
  exact ⟨rfl, below_trans hb1 hb2⟩
theorem frame_own : ownKnob Tryz.prog.godebug = none := by kernel_rfl
theorem frame_laid : laidOutB Tryz.prog = true := by kernel_rfl
theorem frame_pg : Tryz.prog.globalNamed "internal/strconv.uint64pow10" = some 6 := by kernel_rfl
theorem frame_pt : (Tryz.prog.globals[6]?).map (·.type) = some 175 := by kernel_rfl
theorem frame_pd {H : Type} : (Rows.laid_internal_strconv_uint64pow10 : DataW H) = Lib.tabData .u64 Lib.pow10Tab := by rfl
theorem tab_of_laid {W : World} (h : laidMetH Tryz.prog Rows.deskAnswersRow.laid W) : Tab W.heap.size W := by
  have h' : laidMet Tryz.prog (Rows.deskAnswersRow.laid.filter fun x => x.2.handleName?.isNone) W := (laidMetH_iff.1 h).1
  have hr : Lib.VarReads Tryz.prog W "internal/strconv.uint64pow10" Rows.laid_internal_strconv_uint64pow10 := Lib.laidMet.reads h' (List.mem_filter.2 ⟨by simp [Rows.deskAnswersRow], by kernel_rfl⟩)
  rw [frame_pd] at hr
  exact Lib.tabBelow_of_tabIs (tabIs_of_reads frame_pg frame_pt Tryz.underlying175 Tryz.underlying157 (by kernel_rfl) (by kernel_rfl) hr)
theorem glob_of_laid {W : World} (h : laidMetH Tryz.prog Rows.deskAnswersRow.laid W) (hS : W.ShapedOpen Tryz.prog) : Glob W.heap.size W := by
  have h' : laidMet Tryz.prog (Rows.deskAnswersRow.laid.filter fun x => x.2.handleName?.isNone) W := (laidMetH_iff.1 h).1
  have hr : Lib.VarReads Tryz.prog W "strconv.ErrRange" Rows.laid_strconv_ErrRange := Lib.laidMet.reads h' (List.mem_filter.2 ⟨by simp [Rows.deskAnswersRow], by kernel_rfl⟩)
  exact glob_of (tab_of_laid h) (iface_of_reads (g := 5) (by kernel_rfl) (by kernel_rfl) Tryz.underlying42 hr) hS
theorem frame_et : Tryz.prog.globalNamed "errors.errorType" = some 0 := by kernel_rfl
theorem frame_rt : (Tryz.prog.cutTypes.find? (·.1 == "internal/reflectlite.rtype")).map (·.2) = some 133 := by kernel_rfl
theorem frame_oneRow : ((List.range 209).filter fun t => Tryz.prog.rowNamed t [101, 114, 114, 111, 114]) = [42] := by kernel_rfl
theorem frame_size : Tryz.prog.types.size = 209 := by kernel_rfl
theorem handle_of_laid {W : World} (h : laidMetH Tryz.prog Rows.deskAnswersRow.laid W) : Handle W := by
  have h2 : ∃ name u ty, (Rows.laid_errors_errorType : DataW Unit).handleName? = some name ∧ (Tryz.prog.cutTypes.find? (·.1 == "internal/reflectlite.rtype")).map (·.2) = some u ∧ ty < Tryz.prog.types.size ∧ Tryz.prog.rowNamed ty name = true ∧ W.var? Tryz.prog "errors.errorType" = some #[.iface u (.agg #[typeHandle Tryz.prog ty])] := (laidMetH_iff.1 h).2 ("errors.errorType", Rows.laid_errors_errorType) (List.mem_filter.2 ⟨by simp [Rows.deskAnswersRow], by kernel_rfl⟩)
  obtain ⟨name, u, ty, e1, e2, e3, e4, e5⟩ := h2
  have en : name = [101, 114, 114, 111, 114] := (Option.some.inj e1).symm
  subst en
  obtain rfl := Option.some.inj (frame_rt.symm.trans e2)
  have hm : ty ∈ (List.range 209).filter fun t => Tryz.prog.rowNamed t [101, 114, 114, 111, 114] := List.mem_filter.2 ⟨List.mem_range.2 (by rw [← frame_size]; exact e3), e4⟩
  rw [frame_oneRow] at hm
  obtain rfl := List.mem_singleton.1 hm
  have hh : typeHandle Tryz.prog 42 = .pointer (some ⟨9, 42, none⟩) := by kernel_rfl
  rw [hh] at e5
  unfold Handle
  simpa using World.var?_cell frame_et e5 0
noncomputable def laidWorld (os : Os) : World := (World.doorLaid Tryz.prog 400 os).layVars Tryz.prog (Rows.deskAnswersRow.laid.filter fun x => x.2.handleName?.isNone)
theorem laidWorld_os (os : Os) : (laidWorld os).os = os := World.layVars_os _ _ _
theorem laidWorld_met (os : Os) (args : Array Value) : laidMetH Tryz.prog Rows.deskAnswersRow.laid ((laidWorld os).forCall (fun _ _ => 0) ⟨#[], args, []⟩).memory :=
  laidMetH_of_parts (laidMet.of_heap (by simp [laidWorld, World.memory, World.forCall, Input.heap]) (laidMet_over (w0 := (World.doorLaid Tryz.prog 400 os)) (by kernel_rfl) (by kernel_rfl))) (by kernel_rfl)
set_option maxRecDepth 100000 in
theorem frame_lifted (os : Os) (started : os.Started) (H : Type) (enc : TypeId × Value → H) :
    ReturnsInHanded {} Tryz.checked os 3 .any (fun w args => (Rows.deskAnswersSpec.pre enc Tryz.prog Tryz.f3 Rows.deskAnswersRow.domain false w args ∧ laidMetH Tryz.prog Rows.deskAnswersRow.laid w) ∧ sizedMet enc Tryz.prog Tryz.f3 (OpenSpec.ofChange Rows.deskAnswersSpec) false w args) (Rows.deskAnswersSpec.post enc Tryz.prog Tryz.f3 false true false false) := by
  refine returns_and_shaped (C := Tryz.checked) (X := (fun w _ => laidMetH Tryz.prog Rows.deskAnswersRow.laid w)) (fun _ _ _ hh h => h.of_heap hh) frame_own started (by kernel_rfl) Tryz.func3
    (ChangeSpec.witness_shaped (enc := enc) (C := Tryz.checked) (os := os) (X := (fun w _ => laidMetH Tryz.prog Rows.deskAnswersRow.laid w)) false (laidWorld os) #[.string ⟨#[]⟩] 8 (laidWorld_os os) (World.shaped_of_ZipB (by kernel_rfl) (by kernel_rfl)) (by kernel_rfl) (by kernel_rfl) (by kernel_rfl) (laidWorld_met os _)) ?_
  intro W base args ds gs before hval0 hW hcnd _ hLaid hSh _
  have hval : ∀ (j : Nat) t v, Tryz.f3.params[j]? = some t → args[j]? = some v → Value.okWide Tryz.prog W .any base t v := hval0
  have hW' := hW
  obtain ⟨p, q, hA0, hV, rfl, hfz, hnd⟩ := hW
  have hA : DataW.TrodAll enc Tryz.prog W 0 (fun _ => true) true Tryz.f3.params.toList args.toList ds p := hA0
  rw [Tryz.params3] at hA hval
  obtain ⟨v0, vs0, d0, ds0, p0, q0, hargs, rfl, rfl, h0, r0⟩ := trodAll_cons hA
  obtain ⟨rfl, rfl, rfl⟩ := trodAll_nil r0
  obtain rfl : args = #[v0] := by cases args; simp_all
  obtain ⟨rfl, rfl⟩ := trodVars_none hV
  have k0 := h0
  have lt0 : ∀ x ∈ p0, x.block < W.heap.size := by obtain ⟨m, hm⟩ := k0; exact DataW.trod_lt m _ _ _ hm
  obtain ⟨a0, rfl, rfl, rfl, w0⟩ := open_string Tryz.underlying9 (hval 0 9 v0 rfl rfl) h0
  clear hA0 hval0
  refine (DeskAnswers_any a0 w0 W (glob_of_laid hLaid hSh) (handle_of_laid hLaid)).mono fun e W' ⟨he, bel⟩ => ?_
  subst he
  exact ⟨_, rfl, _, _, _, [], _, [], hW', trodAll_mk1 (shut_bool Tryz.underlying4 _), (trodAll_cons_mk (Below.trod frame_laid (by kernel_rfl) (of_decide_eq_true (by kernel_rfl)) k0 bel lt0) trodAll_mk0), rfl, bel.frame _, fun h => by cases h⟩

theorem DeskAnswers_over : Rows.deskAnswersRow.holds Tryz.pinned (OpenSpec.ofChange Rows.deskAnswersSpec) :=
  OpenClaim.holds_of_wide 3 Tryz.f3 rfl rfl rfl rfl rfl rfl rfl ⟨rfl, rfl, rfl, rfl, rfl⟩ rfl rfl rfl rfl rfl (by kernel_rfl) Tryz.func3 (by kernel_rfl)
    (of_decide_eq_true (by kernel_rfl)) (by unfold Func.isWrapper; first | (rw [if_pos (by decide +kernel)]; kernel_rfl) | (rw [if_neg (by decide +kernel)]; exact ⟨rfl, rfl⟩))
    (fun os started H enc _ => frame_lifted os started H enc)

theorem frame_wants : ∀ t ∈ [9], Tryz.prog.wantsStandIn t = false := by
  intro t ht
  simp only [List.mem_cons, List.not_mem_nil, or_false] at ht
  subst ht; kernel_rfl
/-- THE STATEMENT: THE TIED CARD -/
theorem DeskAnswers_holds : Rows.DeskAnswersCardSaid :=
  Claim7.holds_tied_plain_at .later [] [.data, .data, .data, .data, .handle, .sentinel, .sentinel, .pinned] true _ true
    DeskAnswers_over (fun _ h => by cases h) (by kernel_rfl) (fun _ h => by cases h) deskAnswers_row_tie rfl ⟨rfl, rfl⟩ (by kernel_rfl) rfl
    (fun f fn hf hfn => by
      obtain rfl : f = 3 := Option.some.inj ((show Tryz.prog.funcNamed "rankmere/rankmerelaw4.DeskAnswers" = some 3 by kernel_rfl).symm.trans hf) |>.symm
      obtain rfl : fn = Tryz.f3 := (Option.some.inj (Tryz.func3.symm.trans hfn)).symm
      exact ⟨by kernel_rfl, fun j t ht => by
        rw [Tryz.params3] at ht
        exact frame_wants t (by have := Array.mem_of_getElem? ht; simpa using this)⟩)
    (by kernel_rfl)
end Go.Proofs.YtokneabcgmjhdaaGreatDoor.DeskAnswersP

