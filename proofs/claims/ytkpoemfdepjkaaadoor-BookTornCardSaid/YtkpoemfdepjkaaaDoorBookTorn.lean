/- It proves that rankmerelaw4.BookTorn, called with any list of lists of integers and any integer, returns true, and leaves its arguments as they were. The one condition: the variables of the library that its row lists are as the program's text lays them; the card ties them. -/
import Derived.Test.YtkpoemfdepjkaaaDoorBookApart
import Derived.Test.YtkpoemfdepjkaaaDoorFrameS
import Derived.Test.YtkpoemfdepjkaaaDoorESame
import Derived.Test.YtkpoemfdepjkaaaDoorTornMath
import Derived.Test.YtkpoemfdepjkaaaDoorHeld
import Derived.Test.YtkpoemfdepjkaaaDoorOpen
import Derived.Test.YtkpoemfdepjkaaaDoorTie
import Derived.Test.YtkpoemfdepjkaaaDoorCards
import Derived.ProofKit
import Derived.OpenShut
import Derived.ShutString
import Derived.ChangeOld
import Derived.ChangeVars
import Derived.Lib.SmallJoins
import Derived.LaidLaws
import Derived.LaidMore
import Derived.Stop.Joined
import Derived.SevenTiedAt
import Derived.Lib.LaidU8
import Derived.MakeChecks
import Derived.LaidSub
import Derived.Deep.RegionHeld3
namespace Go.Proofs.YtkpoemfdepjkaaaDoor.BookTornP
open Go.ChangeShapes Go.WideShapes Go.ChangeAt Go.RowKit Go.Joins
open Go.ChangeMaps (open_string shut_string)
open Go.Proofs.YtkpoemfdepjkaaaDoor
set_option linter.unusedVariables false
set_option linter.unusedSimpArgs false

theorem ext_upto (s : ByteArray) (k : Nat) : (s.extract 0 k).data.toList = s.data.toList.take k := by
  simp [ByteArray.data_extract]
theorem count_snoc (s : ByteArray) (l : List UInt8) (hl : l = s.data.toList) {k : Nat} (hk : k < s.size) : (l.take (k + 1)).count 10 = (l.take k).count 10 + (if s[k] = 10 then 1 else 0) := by
  have h2 : k < l.length := by rw [hl, size_list]; exact hk
  rw [List.take_add_one, List.getElem?_eq_getElem h2, Option.toList_some, List.count_append, List.count_singleton]
  have e : s[k] = l[k] := by
    subst hl
    simp [ByteArray.getElem_eq_getElem_data]
  rw [e]
  by_cases h : l[k] = 10
  · simp [h]
  · simp [h]
theorem set_len (s : BS) (i j n : Int) : (bSet s i j n).2.length = s.2.length + (if setErr i j n s.2.length = 0 then 1 else 0) := by
  unfold bSet
  by_cases h : setErr i j n s.2.length = 0
  · rw [if_pos h, if_pos h]; simp
  · rw [if_neg h, if_neg h]; rfl
theorem add_len (s : BS) (i j n : Int) : (bAdd s i j n).2.length = s.2.length + (if addErr i j n s.2.length = 0 then 1 else 0) := by
  unfold bAdd
  by_cases h : addErr i j n s.2.length = 0
  · rw [if_pos h, if_pos h]; simp
  · rw [if_neg h, if_neg h]; rfl
theorem glob_call' {w wr W : World} (h : Glob w.heap.size wr) (hb : Below w.heap.size w wr) (h2 : Below wr.heap.size wr W) : Glob W.heap.size W :=
  (h.call (h2.mono hb.size)).mono (Nat.le_trans hb.size h2.size)
set_option maxRecDepth 100000 in
set_option maxHeartbeats 16000000 in
theorem BookTorn_any (a : Option Addr) (n cap : Nat) (steps : List (List Int)) {w' : World} (hr : RowsAt w' a n steps) (hcap : n ≤ cap) (hs : Small n steps) (mm : Int) (w : World) (e : w' = w) (hG : Glob w.heap.size w) :
    Calls Tryd.prog 5 #[.slice a n cap, .int .i64 mm] w fun e w' => e = .returned (.bool true) ∧ Below w.heap.size w w' := by
  subst e
  have hT := hG.1
  have h1 := bookFact_any w' hT
  have h2 := fun W (hb : Below w'.heap.size w' W) => put_any a n cap steps W (hr.call hb) hcap hs (fun W2 h2 => hT W2 (hb.trans (h2.mono hb.size)))
  have HTA := Lib.hid (fun m hm => torn_all steps (min n 70) m hm)
  have HL := Lib.hid (bRun_log steps (min n 70))
  obtain ⟨K, hK⟩ : ∃ K, K = min n 70 := ⟨_, rfl⟩
  rw [← hK] at HTA HL h2
  obtain ⟨s0, hs0⟩ : ∃ s0, s0 = bRun steps K := ⟨_, rfl⟩
  rw [← hs0] at HTA HL h2
  have HS0 := Lib.hid hs0
  have HR0 := Lib.hid hr
  have HG := Lib.hid hG
  have hn := hs.1
  have HS := Lib.hid hs.2
  have HP := Lib.hid h2
  have hT9 := HL.out.short
  have HTL := Lib.hid (HL.out.ok.line)
  have HLEN := Lib.hid (HL.out.ok.len)
  obtain ⟨L0, hL0⟩ : ∃ L0, L0 = s0.2.length := ⟨_, rfl⟩
  have HL0 := Lib.hid hL0
  clear hr hs hT h2 hs0 hG HL hL0
  go_enter Tryd.func5, Tryd.ntmps5
  go_wp2_with fail
  go_at_call 6
  refine (h1).mono ?_
  rintro e w1 ⟨rfl, hb1⟩
  go_wp2_with fail
  go_at_call 7
  refine (HP.out _ hb1).mono ?_
  rintro e w2 ⟨⟨Bk, G, vs, vl, rfl, hB⟩, hb2⟩
  have hb12 := below_trans hb1 hb2
  have hTx := Text_any _ _ _ _ _ _ _ _ hB (Nat.le_trans HLEN.out (by omega)) HTL.out
  generalize textOf s0.2 = T at *
  clear hB
  go_wp2_with fail
  go_at_call 19
  refine (hTx).mono ?_
  rintro e w3 ⟨rfl, hb3⟩
  have hb13 := below_trans hb12 hb3
  clear hTx hb12 hb1 hb2 hb3
  by_cases hm0 : mm < 0
  · go_wp2_with fail
    go_ret
    exact ⟨rfl, hb13⟩
  · obtain ⟨m, rfl⟩ : ∃ m : Nat, mm = m := ⟨mm.toNat, by omega⟩
    by_cases hm1 : T.size < m
    · have hmi : (T.size : Int) < (m : Int) := by omega
      go_wp2_with fail
      go_ret
      exact ⟨rfl, hb13⟩
    · have hmi : ¬ (T.size : Int) < (m : Int) := by omega
      obtain ⟨s, hls, hsl, hop, hsz, hcnt, hall⟩ := HTA.out m (by rw [size_list]; omega)
      obtain ⟨l, hl⟩ : ∃ l, l = T.data.toList := ⟨_, rfl⟩
      rw [← hl] at hsl hop hcnt hall
      obtain ⟨L, hL⟩ : ∃ L, L = (l.take m).count 10 := ⟨_, rfl⟩
      rw [← hL] at hsl hop hcnt hall
      rw [← HL0.out] at hcnt
      have hL60 : L ≤ 60 := by have := HLEN.out; rw [← HL0.out] at this; omega
      have HALL := Lib.hid hall
      have HLS := Lib.hid hls
      have HLL := Lib.hid hL
      have HTD := Lib.hid hl
      have hopn := Open_any (T.extract 0 m) w3 ((HG.out.call hb13).mono hb13.size)
      rw [ext_upto, ← hl, hop] at hopn
      have HOP := Lib.hid hopn
      have HSL := Lib.hid hsl
      have hszi : ((textOf s.2).size : Int) ≤ (m : Int) := by omega
      clear hop hopn hall hls hL hl HTA hsl hsz
      go_upto_region 8 with (fail)
      go_wp2_with fail
      go_loopg [7, 8] (m + 1) (fun g lv iv wr => ∃ k : Nat, k ≤ m ∧ m - k < g ∧ lv = .int .i64 ((l.take k).count 10 : Nat) ∧ iv = .int .i64 k ∧ wr = w3)
      case atStart => exact ⟨0, by omega, by omega, rfl, rfl, rfl⟩
      case round =>
        obtain ⟨k, hk, hg, rfl, rfl, rfl⟩ := hrel
        by_cases hlt : k < m
        · have hki : (k : Int) < (m : Int) := by omega
          have hk0 : (0 : Int) ≤ k := by omega
          have hkT : k < T.size := by omega
          have hkTi : (k : Int) < (T.size : Int) := by omega
          have hsn := count_snoc T l HTD.out hkT
          have hcl : (l.take k).count 10 ≤ k := Nat.le_trans List.count_le_length (List.length_take_le _ _)
          by_cases hc : T[k]'hkT = 10
          · rw [if_pos hc] at hsn
            have HSN := Lib.hid hsn
            have hcb : (((T[k]'hkT).toNat : Int) == 10) = true := by rw [hc]; rfl
            clear hsn hc
            generalize (l.take k).count 10 = ck at *
            go_wp2_with fail
            go_roundg (m - k)
            case measure => omega
            case rel => exact ⟨k + 1, by omega, by omega, by rw [HSN.out]; go_num, by go_num, rfl⟩
          · rw [if_neg hc] at hsn
            have HSN := Lib.hid hsn
            have hcb : (((T[k]'hkT).toNat : Int) == 10) = false := beq_eq_false_iff_ne.2 (fun h => hc (UInt8.toNat_inj.1 (show (T[k]'hkT).toNat = (10 : UInt8).toNat from by have : ((T[k]'hkT).toNat : Int) = 10 := h; simpa using (show (T[k]'hkT).toNat = 10 by omega))))
            clear hsn hc
            generalize (l.take k).count 10 = ck at *
            go_wp2_with fail
            go_roundg (m - k)
            case measure => omega
            case rel => exact ⟨k + 1, by omega, by omega, by rw [HSN.out]; rfl, by go_num, rfl⟩
        · obtain rfl : k = m := by omega
          rw [← HLL.out]
          clear hg
          have hk0 : (0 : Int) ≤ k := by omega
          have hkl : (k : Int) ≤ (T.size : Int) := by omega
          go_upto_region 13 with (fail)
          go_wp2_with fail
          go_at_call 21
          refine HOP.out.mono ?_
          rintro e w4 ⟨h4, hb4⟩
          rcases h4 with ⟨Bo, Go', vso, vlo, rfl, -, hO⟩ | ⟨-, h4⟩
          · have hb14 := below_trans hb13 hb4
            have HW4 := Lib.hid hb14
            have HO := Lib.hid hO
            have HR := Lib.hid (HR0.out.call hb14)
            have HT := Lib.hid ((HG.out.call hb14).mono hb14.size).1
            clear hO hb4 hb14 hb13
            go_wp2_with fail
            go_at_call 13
            refine (New_any _).mono ?_
            rintro e w5 ⟨Bk, G, vs, rfl, hbk, hB, hb5⟩
            have HB := Lib.hid hB
            clear hB
            go_wp2_with fail
            go_loopg [13, 14] 72 (fun g hv iv wr => ∃ j : Nat, j ≤ n ∧ j ≤ 70 ∧ 71 - j < g ∧ iv = .int .i64 j ∧ hv = .int .i64 ((bRun steps j).2.length : Nat) ∧ (bRun steps j).2.length ≤ L ∧ (∃ vl, BookAt wr w4.heap.size Bk G vs vl (bRun steps j).1 (bRun steps j).2) ∧ Below w4.heap.size w4 wr)
            case atStart => exact ⟨0, by omega, by omega, by omega, rfl, rfl, by simp [bRun], ⟨_, HB.out⟩, hb5⟩
            case round =>
              clear HB hb5
              obtain ⟨j, hj, hj7, hgj, rfl, rfl, hhad, ⟨vl, hBr⟩, hbel⟩ := hrel
              have HBR := Lib.hid hBr
              clear hBr
              by_cases hlt : (j < n ∧ j < 70) ∧ (bRun steps j).2.length < L
              · obtain ⟨⟨hj1, hj2⟩, hj3⟩ := hlt
                have hji : (j : Int) < (n : Int) := by omega
                have hj7i : (j : Int) < 70 := by omega
                have hj3i : ((bRun steps j).2.length : Int) < (L : Int) := by omega
                have hj0 : (0 : Int) ≤ j := by omega
                obtain ⟨b, off, ra, rc, rfl, c1, e1, e2, e3, e4⟩ := HR.out.2 j hj1
                obtain ⟨q, hq⟩ : ∃ q, q = steps.getD j [] := ⟨_, rfl⟩
                rw [← hq] at c1 e1 e4
                have HST := Lib.hid (show bRun steps (j + 1) = bStep (bRun steps j) q from by rw [bRun, ← hq])
                have z1 := World.block_lt_of_cell? _ _ c1
                dsimp only at z1
                have cw1 := (hbel.cell (p := ⟨b, off + j, none⟩) z1).trans c1
                have hBsz := hbel.size
                clear hq
                by_cases h4 : q.length = 4
                · have h4i : ((q.length : Int) != 4) = false := by simp [h4]
                  rw [h4] at c1 e4 cw1
                  obtain ⟨b2, o2, rfl, x0⟩ := e4.2 0 (by omega)
                  obtain ⟨b2', o2', q1, x1⟩ := e4.2 1 (by omega)
                  cases q1
                  obtain ⟨b2', o2', q1, x2⟩ := e4.2 2 (by omega)
                  cases q1
                  obtain ⟨b2', o2', q1, x3⟩ := e4.2 3 (by omega)
                  cases q1
                  rw [Nat.add_zero] at x0
                  have z2 := World.block_lt_of_cell? _ _ x0
                  dsimp only at z2
                  have HXS := Lib.hid (fun W (h : Below w4.heap.size w4 W) => (show W.cell? ⟨b2, o2, none⟩ = _ ∧ W.cell? ⟨b2, o2 + 1, none⟩ = _ ∧ W.cell? ⟨b2, o2 + 2, none⟩ = _ ∧ W.cell? ⟨b2, o2 + 3, none⟩ = _ from
                    ⟨(h.cell (p := ⟨b2, o2, none⟩) z2).trans x0, (h.cell (p := ⟨b2, o2 + 1, none⟩) z2).trans x1, (h.cell (p := ⟨b2, o2 + 2, none⟩) z2).trans x2, (h.cell (p := ⟨b2, o2 + 3, none⟩) z2).trans x3⟩))
                  have HA := Lib.hid (fun W (hW : Below wr.heap.size wr W) (i j2 n : Int) => Add_any W w4.heap.size Bk G vs vl (bRun steps j) (HBR.out.call hW) (Nat.le_trans hBsz hW.size) (HT.out.call (hbel.trans (hW.mono hBsz))) i j2 n)
                  have HSe := Lib.hid (fun W (hW : Below wr.heap.size wr W) (i j2 n : Int) => Set_any W w4.heap.size Bk G vs vl (bRun steps j) (HBR.out.call hW) (Nat.le_trans hBsz hW.size) (HT.out.call (hbel.trans (hW.mono hBsz))) i j2 n)
                  have HSS := Lib.hid (show bRun steps (j + 1) = if q.getD 0 0 = 0 then bSet (bRun steps j) (q.getD 1 0) (q.getD 2 0) (q.getD 3 0) else bAdd (bRun steps j) (q.getD 1 0) (q.getD 2 0) (q.getD 3 0) from by rw [HST.out, bStep, if_pos h4])
                  generalize q.getD 0 0 = y0 at *
                  generalize q.getD 1 0 = y1 at *
                  generalize q.getD 2 0 = y2 at *
                  generalize q.getD 3 0 = y3 at *
                  obtain ⟨r0, r1, r2, r3⟩ := HXS.out wr hbel
                  have HCS := Lib.hid (hbel.trans (Cls.start (N := wr.heap.size) |>.mono hBsz))
                  clear h4 e4 e1 e2 e3 HST x0 x1 x2 x3 c1 z1 z2
                  by_cases hy : y0 = 0
                  · subst hy
                    have HLN := Lib.hid (set_len (bRun steps j) y1 y2 y3)
                    have HNX := Lib.hid (show bRun steps (j + 1) = bSet (bRun steps j) y1 y2 y3 from by rw [HSS.out, if_pos rfl])
                    clear HSS
                    rw [← HNX.out] at HLN
                    have hSx := fun W (hW : Below wr.heap.size wr W) => HSe.out W hW y1 y2 y3
                    rw [← HNX.out] at hSx
                    generalize setErr y1 y2 y3 (bRun steps j).2.length = x at *
                    by_cases hx : x = 0
                    · subst hx
                      rw [errV_zero] at hSx
                      have HSX := Lib.hid hSx
                      have hln := HLN.out
                      rw [if_pos rfl] at hln
                      have HLN2 := Lib.hid hln
                      clear hSx HA HSe HLN hln
                      generalize (bRun steps j).2.length = hd at *
                      go_upto_region 23 with (fail)
                      refine wp_region_held_drew (S := fun w' => w'.cell? ⟨b2, o2, none⟩ = some (.int .i64 0) ∧ w'.cell? ⟨b2, o2 + 1, none⟩ = some (.int .i64 y1) ∧ w'.cell? ⟨b2, o2 + 2, none⟩ = some (.int .i64 y2) ∧ w'.cell? ⟨b2, o2 + 3, none⟩ = some (.int .i64 y3)) (by kernel_rfl) (HXS.out _ HCS.out) (fun hHeld => ?_)
                      show wpAnyH _ _ _ _ _ (23 + 15) _ _ _
                      refine wpAnyH_takes (by kernel_rfl) (fun d _ _ _ _ h => by cases d <;> exact h) [0, 1, 2, 3, 4, 5, 6, 7, 8, 9, 10, 11, 12, 13, 14] [(some 79, .slice (some ⟨b2, o2, none⟩) 4 rc), (some 80, .pointer (some ⟨b2, o2, none⟩)), (some 81, .int .i64 0), (some 82, .bool true), (some 83, .bool true), (some 84, .pointer (some ⟨Bk, 0, none⟩)), (some 85, .slice (some ⟨b2, o2, none⟩) 4 rc), (some 86, .pointer (some ⟨b2, o2 + 1, none⟩)), (some 87, .int .i64 y1), (some 88, .slice (some ⟨b2, o2, none⟩) 4 rc), (some 89, .pointer (some ⟨b2, o2 + 2, none⟩)), (some 90, .int .i64 y2), (some 91, .slice (some ⟨b2, o2, none⟩) 4 rc), (some 92, .pointer (some ⟨b2, o2 + 3, none⟩)), (some 93, .int .i64 y3)] 23 _ _ _ rfl (by kernel_rfl) ?_ (by assumption) ?_
                      · refine ⟨⟨_, rfl, rfl, Or.inl ⟨by kernel_rfl, fun w hSw => ?_⟩⟩, ?_⟩
                        · (try dsimp only at hSw)
                          go_simp
                        (try simp only [putAll, Act.put, List.setIfInBounds_toArray, List.set_cons_zero, List.set_cons_succ])
                        refine ⟨⟨_, rfl, rfl, Or.inl ⟨by kernel_rfl, fun w hSw => ?_⟩⟩, ?_⟩
                        · (try dsimp only at hSw)
                          go_simp
                        (try simp only [putAll, Act.put, List.setIfInBounds_toArray, List.set_cons_zero, List.set_cons_succ])
                        refine ⟨⟨_, rfl, rfl, Or.inl ⟨by kernel_rfl, fun w hSw => ?_⟩⟩, ?_⟩
                        · (try dsimp only at hSw)
                          go_simp
                        (try simp only [putAll, Act.put, List.setIfInBounds_toArray, List.set_cons_zero, List.set_cons_succ])
                        refine ⟨⟨_, rfl, rfl, Or.inl ⟨by kernel_rfl, fun w hSw => ?_⟩⟩, ?_⟩
                        · (try dsimp only at hSw)
                          go_simp
                        (try simp only [putAll, Act.put, List.setIfInBounds_toArray, List.set_cons_zero, List.set_cons_succ])
                        refine ⟨⟨_, rfl, rfl, Or.inl ⟨by kernel_rfl, fun w hSw => ?_⟩⟩, ?_⟩
                        · (try dsimp only at hSw)
                          go_simp
                        (try simp only [putAll, Act.put, List.setIfInBounds_toArray, List.set_cons_zero, List.set_cons_succ])
                        refine ⟨⟨_, rfl, rfl, Or.inl ⟨by kernel_rfl, fun w hSw => ?_⟩⟩, ?_⟩
                        · (try dsimp only at hSw)
                          go_simp
                        (try simp only [putAll, Act.put, List.setIfInBounds_toArray, List.set_cons_zero, List.set_cons_succ])
                        refine ⟨⟨_, rfl, rfl, Or.inl ⟨by kernel_rfl, fun w hSw => ?_⟩⟩, ?_⟩
                        · (try dsimp only at hSw)
                          go_simp
                        (try simp only [putAll, Act.put, List.setIfInBounds_toArray, List.set_cons_zero, List.set_cons_succ])
                        refine ⟨⟨_, rfl, rfl, Or.inl ⟨by kernel_rfl, fun w hSw => ?_⟩⟩, ?_⟩
                        · (try dsimp only at hSw)
                          go_simp
                        (try simp only [putAll, Act.put, List.setIfInBounds_toArray, List.set_cons_zero, List.set_cons_succ])
                        refine ⟨⟨_, rfl, rfl, Or.inl ⟨by kernel_rfl, fun w hSw => ?_⟩⟩, ?_⟩
                        · (try dsimp only at hSw)
                          go_simp
                        (try simp only [putAll, Act.put, List.setIfInBounds_toArray, List.set_cons_zero, List.set_cons_succ])
                        refine ⟨⟨_, rfl, rfl, Or.inl ⟨by kernel_rfl, fun w hSw => ?_⟩⟩, ?_⟩
                        · (try dsimp only at hSw)
                          go_simp
                        (try simp only [putAll, Act.put, List.setIfInBounds_toArray, List.set_cons_zero, List.set_cons_succ])
                        refine ⟨⟨_, rfl, rfl, Or.inl ⟨by kernel_rfl, fun w hSw => ?_⟩⟩, ?_⟩
                        · (try dsimp only at hSw)
                          go_simp
                        (try simp only [putAll, Act.put, List.setIfInBounds_toArray, List.set_cons_zero, List.set_cons_succ])
                        refine ⟨⟨_, rfl, rfl, Or.inl ⟨by kernel_rfl, fun w hSw => ?_⟩⟩, ?_⟩
                        · (try dsimp only at hSw)
                          go_simp
                        (try simp only [putAll, Act.put, List.setIfInBounds_toArray, List.set_cons_zero, List.set_cons_succ])
                        refine ⟨⟨_, rfl, rfl, Or.inl ⟨by kernel_rfl, fun w hSw => ?_⟩⟩, ?_⟩
                        · (try dsimp only at hSw)
                          go_simp
                        (try simp only [putAll, Act.put, List.setIfInBounds_toArray, List.set_cons_zero, List.set_cons_succ])
                        refine ⟨⟨_, rfl, rfl, Or.inl ⟨by kernel_rfl, fun w hSw => ?_⟩⟩, ?_⟩
                        · (try dsimp only at hSw)
                          go_simp
                        (try simp only [putAll, Act.put, List.setIfInBounds_toArray, List.set_cons_zero, List.set_cons_succ])
                        refine ⟨⟨_, rfl, rfl, Or.inl ⟨by kernel_rfl, fun w hSw => ?_⟩⟩, ?_⟩
                        · (try dsimp only at hSw)
                          go_simp
                        (try simp only [putAll, Act.put, List.setIfInBounds_toArray, List.set_cons_zero, List.set_cons_succ])
                        exact True.intro
                      (try simp only [putAll, Act.put, List.setIfInBounds_toArray, List.set_cons_zero, List.set_cons_succ])
                      refine wpAnyH_ready (rs := [15]) (by kernel_rfl) (by simp) ?_
                      refine AllReadyH.cons rfl (fun K hK => ?_) AllReadyH.nil
                      go_simp
                      go_at_call 16
                      refine (HSX.out _ Cls.start).mono ?_
                      rintro e w6 ⟨rfl, ⟨vl', hB6, hbl⟩, hK6⟩
                      have d1 := HCS.out.trans (hK6.below (HBR.out.call Cls.start))
                      (try go_simp)
                      refine hK.out _ _ (HXS.out _ d1) (fun hHeld2 => ?_)
                      clear hK K
                      (try simp only [putAll, Act.put, List.setIfInBounds_toArray, List.set_cons_zero, List.set_cons_succ])
                      show wpAnyH _ _ _ _ _ (0 + 22) _ _ _
                      refine wpAnyH_takes (by kernel_rfl) (fun d _ _ _ _ h => by cases d <;> exact h) [16, 17, 18, 19, 20, 21, 22, 23, 24, 25, 26, 27, 28, 29, 30, 31, 32, 33, 34, 35, 36, 37] [(some 95, .bool true), (some 96, .bool true), (some 97, .bool true), (some 98, undef), (some 99, undef), (some 100, undef), (some 101, undef), (some 102, undef), (some 103, undef), (some 104, undef), (some 105, undef), (some 106, undef), (some 107, undef), (some 108, undef), (some 109, undef), (some 110, undef), (some 111, undef), (some 112, undef), (some 113, undef), (some 114, undef), (some 115, undef), (some 116, .bool true)] 0 _ _ _ rfl (by kernel_rfl) ?_ (by assumption) ?_
                      · refine ⟨⟨_, rfl, rfl, Or.inl ⟨by kernel_rfl, fun w hSw => ?_⟩⟩, ?_⟩
                        · (try dsimp only at hSw)
                          go_simp
                        (try simp only [putAll, Act.put, List.setIfInBounds_toArray, List.set_cons_zero, List.set_cons_succ])
                        refine ⟨⟨_, rfl, rfl, Or.inl ⟨by kernel_rfl, fun w hSw => ?_⟩⟩, ?_⟩
                        · (try dsimp only at hSw)
                          go_simp
                        (try simp only [putAll, Act.put, List.setIfInBounds_toArray, List.set_cons_zero, List.set_cons_succ])
                        refine ⟨⟨_, rfl, rfl, Or.inl ⟨by kernel_rfl, fun w hSw => ?_⟩⟩, ?_⟩
                        · (try dsimp only at hSw)
                          go_simp
                        (try simp only [putAll, Act.put, List.setIfInBounds_toArray, List.set_cons_zero, List.set_cons_succ])
                        refine ⟨⟨_, rfl, rfl, Or.inr ⟨by kernel_rfl, rfl⟩⟩, ?_⟩
                        (try simp only [putAll, Act.put, List.setIfInBounds_toArray, List.set_cons_zero, List.set_cons_succ])
                        refine ⟨⟨_, rfl, rfl, Or.inr ⟨by kernel_rfl, rfl⟩⟩, ?_⟩
                        (try simp only [putAll, Act.put, List.setIfInBounds_toArray, List.set_cons_zero, List.set_cons_succ])
                        refine ⟨⟨_, rfl, rfl, Or.inr ⟨by kernel_rfl, rfl⟩⟩, ?_⟩
                        (try simp only [putAll, Act.put, List.setIfInBounds_toArray, List.set_cons_zero, List.set_cons_succ])
                        refine ⟨⟨_, rfl, rfl, Or.inr ⟨by kernel_rfl, rfl⟩⟩, ?_⟩
                        (try simp only [putAll, Act.put, List.setIfInBounds_toArray, List.set_cons_zero, List.set_cons_succ])
                        refine ⟨⟨_, rfl, rfl, Or.inr ⟨by kernel_rfl, rfl⟩⟩, ?_⟩
                        (try simp only [putAll, Act.put, List.setIfInBounds_toArray, List.set_cons_zero, List.set_cons_succ])
                        refine ⟨⟨_, rfl, rfl, Or.inr ⟨by kernel_rfl, rfl⟩⟩, ?_⟩
                        (try simp only [putAll, Act.put, List.setIfInBounds_toArray, List.set_cons_zero, List.set_cons_succ])
                        refine ⟨⟨_, rfl, rfl, Or.inr ⟨by kernel_rfl, rfl⟩⟩, ?_⟩
                        (try simp only [putAll, Act.put, List.setIfInBounds_toArray, List.set_cons_zero, List.set_cons_succ])
                        refine ⟨⟨_, rfl, rfl, Or.inr ⟨by kernel_rfl, rfl⟩⟩, ?_⟩
                        (try simp only [putAll, Act.put, List.setIfInBounds_toArray, List.set_cons_zero, List.set_cons_succ])
                        refine ⟨⟨_, rfl, rfl, Or.inr ⟨by kernel_rfl, rfl⟩⟩, ?_⟩
                        (try simp only [putAll, Act.put, List.setIfInBounds_toArray, List.set_cons_zero, List.set_cons_succ])
                        refine ⟨⟨_, rfl, rfl, Or.inr ⟨by kernel_rfl, rfl⟩⟩, ?_⟩
                        (try simp only [putAll, Act.put, List.setIfInBounds_toArray, List.set_cons_zero, List.set_cons_succ])
                        refine ⟨⟨_, rfl, rfl, Or.inr ⟨by kernel_rfl, rfl⟩⟩, ?_⟩
                        (try simp only [putAll, Act.put, List.setIfInBounds_toArray, List.set_cons_zero, List.set_cons_succ])
                        refine ⟨⟨_, rfl, rfl, Or.inr ⟨by kernel_rfl, rfl⟩⟩, ?_⟩
                        (try simp only [putAll, Act.put, List.setIfInBounds_toArray, List.set_cons_zero, List.set_cons_succ])
                        refine ⟨⟨_, rfl, rfl, Or.inr ⟨by kernel_rfl, rfl⟩⟩, ?_⟩
                        (try simp only [putAll, Act.put, List.setIfInBounds_toArray, List.set_cons_zero, List.set_cons_succ])
                        refine ⟨⟨_, rfl, rfl, Or.inr ⟨by kernel_rfl, rfl⟩⟩, ?_⟩
                        (try simp only [putAll, Act.put, List.setIfInBounds_toArray, List.set_cons_zero, List.set_cons_succ])
                        refine ⟨⟨_, rfl, rfl, Or.inr ⟨by kernel_rfl, rfl⟩⟩, ?_⟩
                        (try simp only [putAll, Act.put, List.setIfInBounds_toArray, List.set_cons_zero, List.set_cons_succ])
                        refine ⟨⟨_, rfl, rfl, Or.inr ⟨by kernel_rfl, rfl⟩⟩, ?_⟩
                        (try simp only [putAll, Act.put, List.setIfInBounds_toArray, List.set_cons_zero, List.set_cons_succ])
                        refine ⟨⟨_, rfl, rfl, Or.inr ⟨by kernel_rfl, rfl⟩⟩, ?_⟩
                        (try simp only [putAll, Act.put, List.setIfInBounds_toArray, List.set_cons_zero, List.set_cons_succ])
                        refine ⟨⟨_, rfl, rfl, Or.inr ⟨by kernel_rfl, rfl⟩⟩, ?_⟩
                        (try simp only [putAll, Act.put, List.setIfInBounds_toArray, List.set_cons_zero, List.set_cons_succ])
                        refine ⟨⟨_, rfl, rfl, Or.inl ⟨by kernel_rfl, fun w hSw => ?_⟩⟩, ?_⟩
                        · (try dsimp only at hSw)
                          go_simp
                        (try simp only [putAll, Act.put, List.setIfInBounds_toArray, List.set_cons_zero, List.set_cons_succ])
                        exact True.intro
                      (try simp only [putAll, Act.put, List.setIfInBounds_toArray, List.set_cons_zero, List.set_cons_succ])
                      refine wpAnyH_done (by kernel_rfl) ?_ _
                      have HB6 := Lib.hid hB6
                      clear hB6 hbl hK6
                      go_wp2_with fail
                      go_roundg (71 - j)
                      case measure => omega
                      case rel => exact ⟨j + 1, by omega, by omega, by omega, by go_num, by rw [HLN2.out]; go_num, by rw [HLN2.out]; omega, ⟨vl', HB6.out⟩, d1⟩
                    · rw [errV_pos hx] at hSx
                      have HSX := Lib.hid hSx
                      have hln := HLN.out
                      rw [if_neg hx] at hln
                      have HLN2 := Lib.hid hln
                      clear hSx HA HSe HLN hln
                      generalize (bRun steps j).2.length = hd at *
                      go_upto_region 23 with (fail)
                      refine wp_region_held_drew (S := fun w' => w'.cell? ⟨b2, o2, none⟩ = some (.int .i64 0) ∧ w'.cell? ⟨b2, o2 + 1, none⟩ = some (.int .i64 y1) ∧ w'.cell? ⟨b2, o2 + 2, none⟩ = some (.int .i64 y2) ∧ w'.cell? ⟨b2, o2 + 3, none⟩ = some (.int .i64 y3)) (by kernel_rfl) (HXS.out _ HCS.out) (fun hHeld => ?_)
                      show wpAnyH _ _ _ _ _ (23 + 15) _ _ _
                      refine wpAnyH_takes (by kernel_rfl) (fun d _ _ _ _ h => by cases d <;> exact h) [0, 1, 2, 3, 4, 5, 6, 7, 8, 9, 10, 11, 12, 13, 14] [(some 79, .slice (some ⟨b2, o2, none⟩) 4 rc), (some 80, .pointer (some ⟨b2, o2, none⟩)), (some 81, .int .i64 0), (some 82, .bool true), (some 83, .bool true), (some 84, .pointer (some ⟨Bk, 0, none⟩)), (some 85, .slice (some ⟨b2, o2, none⟩) 4 rc), (some 86, .pointer (some ⟨b2, o2 + 1, none⟩)), (some 87, .int .i64 y1), (some 88, .slice (some ⟨b2, o2, none⟩) 4 rc), (some 89, .pointer (some ⟨b2, o2 + 2, none⟩)), (some 90, .int .i64 y2), (some 91, .slice (some ⟨b2, o2, none⟩) 4 rc), (some 92, .pointer (some ⟨b2, o2 + 3, none⟩)), (some 93, .int .i64 y3)] 23 _ _ _ rfl (by kernel_rfl) ?_ (by assumption) ?_
                      · refine ⟨⟨_, rfl, rfl, Or.inl ⟨by kernel_rfl, fun w hSw => ?_⟩⟩, ?_⟩
                        · (try dsimp only at hSw)
                          go_simp
                        (try simp only [putAll, Act.put, List.setIfInBounds_toArray, List.set_cons_zero, List.set_cons_succ])
                        refine ⟨⟨_, rfl, rfl, Or.inl ⟨by kernel_rfl, fun w hSw => ?_⟩⟩, ?_⟩
                        · (try dsimp only at hSw)
                          go_simp
                        (try simp only [putAll, Act.put, List.setIfInBounds_toArray, List.set_cons_zero, List.set_cons_succ])
                        refine ⟨⟨_, rfl, rfl, Or.inl ⟨by kernel_rfl, fun w hSw => ?_⟩⟩, ?_⟩
                        · (try dsimp only at hSw)
                          go_simp
                        (try simp only [putAll, Act.put, List.setIfInBounds_toArray, List.set_cons_zero, List.set_cons_succ])
                        refine ⟨⟨_, rfl, rfl, Or.inl ⟨by kernel_rfl, fun w hSw => ?_⟩⟩, ?_⟩
                        · (try dsimp only at hSw)
                          go_simp
                        (try simp only [putAll, Act.put, List.setIfInBounds_toArray, List.set_cons_zero, List.set_cons_succ])
                        refine ⟨⟨_, rfl, rfl, Or.inl ⟨by kernel_rfl, fun w hSw => ?_⟩⟩, ?_⟩
                        · (try dsimp only at hSw)
                          go_simp
                        (try simp only [putAll, Act.put, List.setIfInBounds_toArray, List.set_cons_zero, List.set_cons_succ])
                        refine ⟨⟨_, rfl, rfl, Or.inl ⟨by kernel_rfl, fun w hSw => ?_⟩⟩, ?_⟩
                        · (try dsimp only at hSw)
                          go_simp
                        (try simp only [putAll, Act.put, List.setIfInBounds_toArray, List.set_cons_zero, List.set_cons_succ])
                        refine ⟨⟨_, rfl, rfl, Or.inl ⟨by kernel_rfl, fun w hSw => ?_⟩⟩, ?_⟩
                        · (try dsimp only at hSw)
                          go_simp
                        (try simp only [putAll, Act.put, List.setIfInBounds_toArray, List.set_cons_zero, List.set_cons_succ])
                        refine ⟨⟨_, rfl, rfl, Or.inl ⟨by kernel_rfl, fun w hSw => ?_⟩⟩, ?_⟩
                        · (try dsimp only at hSw)
                          go_simp
                        (try simp only [putAll, Act.put, List.setIfInBounds_toArray, List.set_cons_zero, List.set_cons_succ])
                        refine ⟨⟨_, rfl, rfl, Or.inl ⟨by kernel_rfl, fun w hSw => ?_⟩⟩, ?_⟩
                        · (try dsimp only at hSw)
                          go_simp
                        (try simp only [putAll, Act.put, List.setIfInBounds_toArray, List.set_cons_zero, List.set_cons_succ])
                        refine ⟨⟨_, rfl, rfl, Or.inl ⟨by kernel_rfl, fun w hSw => ?_⟩⟩, ?_⟩
                        · (try dsimp only at hSw)
                          go_simp
                        (try simp only [putAll, Act.put, List.setIfInBounds_toArray, List.set_cons_zero, List.set_cons_succ])
                        refine ⟨⟨_, rfl, rfl, Or.inl ⟨by kernel_rfl, fun w hSw => ?_⟩⟩, ?_⟩
                        · (try dsimp only at hSw)
                          go_simp
                        (try simp only [putAll, Act.put, List.setIfInBounds_toArray, List.set_cons_zero, List.set_cons_succ])
                        refine ⟨⟨_, rfl, rfl, Or.inl ⟨by kernel_rfl, fun w hSw => ?_⟩⟩, ?_⟩
                        · (try dsimp only at hSw)
                          go_simp
                        (try simp only [putAll, Act.put, List.setIfInBounds_toArray, List.set_cons_zero, List.set_cons_succ])
                        refine ⟨⟨_, rfl, rfl, Or.inl ⟨by kernel_rfl, fun w hSw => ?_⟩⟩, ?_⟩
                        · (try dsimp only at hSw)
                          go_simp
                        (try simp only [putAll, Act.put, List.setIfInBounds_toArray, List.set_cons_zero, List.set_cons_succ])
                        refine ⟨⟨_, rfl, rfl, Or.inl ⟨by kernel_rfl, fun w hSw => ?_⟩⟩, ?_⟩
                        · (try dsimp only at hSw)
                          go_simp
                        (try simp only [putAll, Act.put, List.setIfInBounds_toArray, List.set_cons_zero, List.set_cons_succ])
                        refine ⟨⟨_, rfl, rfl, Or.inl ⟨by kernel_rfl, fun w hSw => ?_⟩⟩, ?_⟩
                        · (try dsimp only at hSw)
                          go_simp
                        (try simp only [putAll, Act.put, List.setIfInBounds_toArray, List.set_cons_zero, List.set_cons_succ])
                        exact True.intro
                      (try simp only [putAll, Act.put, List.setIfInBounds_toArray, List.set_cons_zero, List.set_cons_succ])
                      refine wpAnyH_ready (rs := [15]) (by kernel_rfl) (by simp) ?_
                      refine AllReadyH.cons rfl (fun K hK => ?_) AllReadyH.nil
                      go_simp
                      go_at_call 16
                      refine (HSX.out _ Cls.start).mono ?_
                      rintro e w6 ⟨rfl, ⟨vl', hB6, hbl⟩, hK6⟩
                      have d1 := HCS.out.trans (hK6.below (HBR.out.call Cls.start))
                      (try go_simp)
                      refine hK.out _ _ (HXS.out _ d1) (fun hHeld2 => ?_)
                      clear hK K
                      (try simp only [putAll, Act.put, List.setIfInBounds_toArray, List.set_cons_zero, List.set_cons_succ])
                      show wpAnyH _ _ _ _ _ (0 + 22) _ _ _
                      refine wpAnyH_takes (by kernel_rfl) (fun d _ _ _ _ h => by cases d <;> exact h) [16, 17, 18, 19, 20, 21, 22, 23, 24, 25, 26, 27, 28, 29, 30, 31, 32, 33, 34, 35, 36, 37] [(some 95, .bool false), (some 96, .bool false), (some 97, .bool false), (some 98, .slice (some ⟨b2, o2, none⟩) 4 rc), (some 99, .pointer (some ⟨b2, o2, none⟩)), (some 100, .int .i64 0), (some 101, .bool false), (some 102, .bool false), (some 103, undef), (some 104, undef), (some 105, undef), (some 106, undef), (some 107, undef), (some 108, undef), (some 109, undef), (some 110, undef), (some 111, undef), (some 112, undef), (some 113, undef), (some 114, undef), (some 115, .bool false), (some 116, .bool false)] 0 _ _ _ rfl (by kernel_rfl) ?_ (by assumption) ?_
                      · refine ⟨⟨_, rfl, rfl, Or.inl ⟨by kernel_rfl, fun w hSw => ?_⟩⟩, ?_⟩
                        · (try dsimp only at hSw)
                          go_simp
                        (try simp only [putAll, Act.put, List.setIfInBounds_toArray, List.set_cons_zero, List.set_cons_succ])
                        refine ⟨⟨_, rfl, rfl, Or.inl ⟨by kernel_rfl, fun w hSw => ?_⟩⟩, ?_⟩
                        · (try dsimp only at hSw)
                          go_simp
                        (try simp only [putAll, Act.put, List.setIfInBounds_toArray, List.set_cons_zero, List.set_cons_succ])
                        refine ⟨⟨_, rfl, rfl, Or.inl ⟨by kernel_rfl, fun w hSw => ?_⟩⟩, ?_⟩
                        · (try dsimp only at hSw)
                          go_simp
                        (try simp only [putAll, Act.put, List.setIfInBounds_toArray, List.set_cons_zero, List.set_cons_succ])
                        refine ⟨⟨_, rfl, rfl, Or.inl ⟨by kernel_rfl, fun w hSw => ?_⟩⟩, ?_⟩
                        · (try dsimp only at hSw)
                          go_simp
                        (try simp only [putAll, Act.put, List.setIfInBounds_toArray, List.set_cons_zero, List.set_cons_succ])
                        refine ⟨⟨_, rfl, rfl, Or.inl ⟨by kernel_rfl, fun w hSw => ?_⟩⟩, ?_⟩
                        · (try dsimp only at hSw)
                          go_simp
                        (try simp only [putAll, Act.put, List.setIfInBounds_toArray, List.set_cons_zero, List.set_cons_succ])
                        refine ⟨⟨_, rfl, rfl, Or.inl ⟨by kernel_rfl, fun w hSw => ?_⟩⟩, ?_⟩
                        · (try dsimp only at hSw)
                          go_simp
                        (try simp only [putAll, Act.put, List.setIfInBounds_toArray, List.set_cons_zero, List.set_cons_succ])
                        refine ⟨⟨_, rfl, rfl, Or.inl ⟨by kernel_rfl, fun w hSw => ?_⟩⟩, ?_⟩
                        · (try dsimp only at hSw)
                          go_simp
                        (try simp only [putAll, Act.put, List.setIfInBounds_toArray, List.set_cons_zero, List.set_cons_succ])
                        refine ⟨⟨_, rfl, rfl, Or.inl ⟨by kernel_rfl, fun w hSw => ?_⟩⟩, ?_⟩
                        · (try dsimp only at hSw)
                          go_simp
                        (try simp only [putAll, Act.put, List.setIfInBounds_toArray, List.set_cons_zero, List.set_cons_succ])
                        refine ⟨⟨_, rfl, rfl, Or.inr ⟨by kernel_rfl, rfl⟩⟩, ?_⟩
                        (try simp only [putAll, Act.put, List.setIfInBounds_toArray, List.set_cons_zero, List.set_cons_succ])
                        refine ⟨⟨_, rfl, rfl, Or.inr ⟨by kernel_rfl, rfl⟩⟩, ?_⟩
                        (try simp only [putAll, Act.put, List.setIfInBounds_toArray, List.set_cons_zero, List.set_cons_succ])
                        refine ⟨⟨_, rfl, rfl, Or.inr ⟨by kernel_rfl, rfl⟩⟩, ?_⟩
                        (try simp only [putAll, Act.put, List.setIfInBounds_toArray, List.set_cons_zero, List.set_cons_succ])
                        refine ⟨⟨_, rfl, rfl, Or.inr ⟨by kernel_rfl, rfl⟩⟩, ?_⟩
                        (try simp only [putAll, Act.put, List.setIfInBounds_toArray, List.set_cons_zero, List.set_cons_succ])
                        refine ⟨⟨_, rfl, rfl, Or.inr ⟨by kernel_rfl, rfl⟩⟩, ?_⟩
                        (try simp only [putAll, Act.put, List.setIfInBounds_toArray, List.set_cons_zero, List.set_cons_succ])
                        refine ⟨⟨_, rfl, rfl, Or.inr ⟨by kernel_rfl, rfl⟩⟩, ?_⟩
                        (try simp only [putAll, Act.put, List.setIfInBounds_toArray, List.set_cons_zero, List.set_cons_succ])
                        refine ⟨⟨_, rfl, rfl, Or.inr ⟨by kernel_rfl, rfl⟩⟩, ?_⟩
                        (try simp only [putAll, Act.put, List.setIfInBounds_toArray, List.set_cons_zero, List.set_cons_succ])
                        refine ⟨⟨_, rfl, rfl, Or.inr ⟨by kernel_rfl, rfl⟩⟩, ?_⟩
                        (try simp only [putAll, Act.put, List.setIfInBounds_toArray, List.set_cons_zero, List.set_cons_succ])
                        refine ⟨⟨_, rfl, rfl, Or.inr ⟨by kernel_rfl, rfl⟩⟩, ?_⟩
                        (try simp only [putAll, Act.put, List.setIfInBounds_toArray, List.set_cons_zero, List.set_cons_succ])
                        refine ⟨⟨_, rfl, rfl, Or.inr ⟨by kernel_rfl, rfl⟩⟩, ?_⟩
                        (try simp only [putAll, Act.put, List.setIfInBounds_toArray, List.set_cons_zero, List.set_cons_succ])
                        refine ⟨⟨_, rfl, rfl, Or.inr ⟨by kernel_rfl, rfl⟩⟩, ?_⟩
                        (try simp only [putAll, Act.put, List.setIfInBounds_toArray, List.set_cons_zero, List.set_cons_succ])
                        refine ⟨⟨_, rfl, rfl, Or.inr ⟨by kernel_rfl, rfl⟩⟩, ?_⟩
                        (try simp only [putAll, Act.put, List.setIfInBounds_toArray, List.set_cons_zero, List.set_cons_succ])
                        refine ⟨⟨_, rfl, rfl, Or.inl ⟨by kernel_rfl, fun w hSw => ?_⟩⟩, ?_⟩
                        · (try dsimp only at hSw)
                          go_simp
                        (try simp only [putAll, Act.put, List.setIfInBounds_toArray, List.set_cons_zero, List.set_cons_succ])
                        refine ⟨⟨_, rfl, rfl, Or.inl ⟨by kernel_rfl, fun w hSw => ?_⟩⟩, ?_⟩
                        · (try dsimp only at hSw)
                          go_simp
                        (try simp only [putAll, Act.put, List.setIfInBounds_toArray, List.set_cons_zero, List.set_cons_succ])
                        exact True.intro
                      (try simp only [putAll, Act.put, List.setIfInBounds_toArray, List.set_cons_zero, List.set_cons_succ])
                      refine wpAnyH_done (by kernel_rfl) ?_ _
                      have HB6 := Lib.hid hB6
                      clear hB6 hbl hK6
                      go_wp2_with fail
                      go_roundg (71 - j)
                      case measure => omega
                      case rel => exact ⟨j + 1, by omega, by omega, by omega, by go_num, by rw [HLN2.out]; rfl, by rw [HLN2.out]; omega, ⟨vl', HB6.out⟩, d1⟩
                  · have hyb : (y0 == 0) = false := by simp [hy]
                    have hyb2 : (y0 != 0) = true := by simp [hy]
                    have HLN := Lib.hid (add_len (bRun steps j) y1 y2 y3)
                    have HNX := Lib.hid (show bRun steps (j + 1) = bAdd (bRun steps j) y1 y2 y3 from by rw [HSS.out, if_neg hy])
                    clear HSS
                    rw [← HNX.out] at HLN
                    have hSx := fun W (hW : Below wr.heap.size wr W) => HA.out W hW y1 y2 y3
                    rw [← HNX.out] at hSx
                    generalize addErr y1 y2 y3 (bRun steps j).2.length = x at *
                    by_cases hx : x = 0
                    · subst hx
                      rw [errV_zero] at hSx
                      have HSX := Lib.hid hSx
                      have hln := HLN.out
                      rw [if_pos rfl] at hln
                      have HLN2 := Lib.hid hln
                      clear hSx HA HSe HLN hln
                      generalize (bRun steps j).2.length = hd at *
                      go_upto_region 23 with (fail)
                      refine wp_region_held_drew (S := fun w' => w'.cell? ⟨b2, o2, none⟩ = some (.int .i64 y0) ∧ w'.cell? ⟨b2, o2 + 1, none⟩ = some (.int .i64 y1) ∧ w'.cell? ⟨b2, o2 + 2, none⟩ = some (.int .i64 y2) ∧ w'.cell? ⟨b2, o2 + 3, none⟩ = some (.int .i64 y3)) (by kernel_rfl) (HXS.out _ HCS.out) (fun hHeld => ?_)
                      show wpAnyH _ _ _ _ _ (4 + 34) _ _ _
                      refine wpAnyH_takes (by kernel_rfl) (fun d _ _ _ _ h => by cases d <;> exact h) [0, 1, 2, 3, 4, 5, 6, 7, 8, 9, 10, 11, 12, 13, 14, 15, 16, 17, 18, 19, 20, 21, 22, 23, 24, 25, 26, 27, 28, 29, 30, 31, 32, 33] [(some 79, .slice (some ⟨b2, o2, none⟩) 4 rc), (some 80, .pointer (some ⟨b2, o2, none⟩)), (some 81, .int .i64 y0), (some 82, .bool false), (some 83, .bool false), (some 84, undef), (some 85, undef), (some 86, undef), (some 87, undef), (some 88, undef), (some 89, undef), (some 90, undef), (some 91, undef), (some 92, undef), (some 93, undef), (some 94, undef), (some 95, undef), (some 96, .bool false), (some 97, .bool false), (some 98, .slice (some ⟨b2, o2, none⟩) 4 rc), (some 99, .pointer (some ⟨b2, o2, none⟩)), (some 100, .int .i64 y0), (some 101, .bool true), (some 102, .bool true), (some 103, .pointer (some ⟨Bk, 0, none⟩)), (some 104, .slice (some ⟨b2, o2, none⟩) 4 rc), (some 105, .pointer (some ⟨b2, o2 + 1, none⟩)), (some 106, .int .i64 y1), (some 107, .slice (some ⟨b2, o2, none⟩) 4 rc), (some 108, .pointer (some ⟨b2, o2 + 2, none⟩)), (some 109, .int .i64 y2), (some 110, .slice (some ⟨b2, o2, none⟩) 4 rc), (some 111, .pointer (some ⟨b2, o2 + 3, none⟩)), (some 112, .int .i64 y3)] 4 _ _ _ rfl (by kernel_rfl) ?_ (by assumption) ?_
                      · refine ⟨⟨_, rfl, rfl, Or.inl ⟨by kernel_rfl, fun w hSw => ?_⟩⟩, ?_⟩
                        · (try dsimp only at hSw)
                          go_simp
                        (try simp only [putAll, Act.put, List.setIfInBounds_toArray, List.set_cons_zero, List.set_cons_succ])
                        refine ⟨⟨_, rfl, rfl, Or.inl ⟨by kernel_rfl, fun w hSw => ?_⟩⟩, ?_⟩
                        · (try dsimp only at hSw)
                          go_simp
                        (try simp only [putAll, Act.put, List.setIfInBounds_toArray, List.set_cons_zero, List.set_cons_succ])
                        refine ⟨⟨_, rfl, rfl, Or.inl ⟨by kernel_rfl, fun w hSw => ?_⟩⟩, ?_⟩
                        · (try dsimp only at hSw)
                          go_simp
                        (try simp only [putAll, Act.put, List.setIfInBounds_toArray, List.set_cons_zero, List.set_cons_succ])
                        refine ⟨⟨_, rfl, rfl, Or.inl ⟨by kernel_rfl, fun w hSw => ?_⟩⟩, ?_⟩
                        · (try dsimp only at hSw)
                          go_simp
                        (try simp only [putAll, Act.put, List.setIfInBounds_toArray, List.set_cons_zero, List.set_cons_succ])
                        refine ⟨⟨_, rfl, rfl, Or.inl ⟨by kernel_rfl, fun w hSw => ?_⟩⟩, ?_⟩
                        · (try dsimp only at hSw)
                          go_simp
                        (try simp only [putAll, Act.put, List.setIfInBounds_toArray, List.set_cons_zero, List.set_cons_succ])
                        refine ⟨⟨_, rfl, rfl, Or.inr ⟨by kernel_rfl, rfl⟩⟩, ?_⟩
                        (try simp only [putAll, Act.put, List.setIfInBounds_toArray, List.set_cons_zero, List.set_cons_succ])
                        refine ⟨⟨_, rfl, rfl, Or.inr ⟨by kernel_rfl, rfl⟩⟩, ?_⟩
                        (try simp only [putAll, Act.put, List.setIfInBounds_toArray, List.set_cons_zero, List.set_cons_succ])
                        refine ⟨⟨_, rfl, rfl, Or.inr ⟨by kernel_rfl, rfl⟩⟩, ?_⟩
                        (try simp only [putAll, Act.put, List.setIfInBounds_toArray, List.set_cons_zero, List.set_cons_succ])
                        refine ⟨⟨_, rfl, rfl, Or.inr ⟨by kernel_rfl, rfl⟩⟩, ?_⟩
                        (try simp only [putAll, Act.put, List.setIfInBounds_toArray, List.set_cons_zero, List.set_cons_succ])
                        refine ⟨⟨_, rfl, rfl, Or.inr ⟨by kernel_rfl, rfl⟩⟩, ?_⟩
                        (try simp only [putAll, Act.put, List.setIfInBounds_toArray, List.set_cons_zero, List.set_cons_succ])
                        refine ⟨⟨_, rfl, rfl, Or.inr ⟨by kernel_rfl, rfl⟩⟩, ?_⟩
                        (try simp only [putAll, Act.put, List.setIfInBounds_toArray, List.set_cons_zero, List.set_cons_succ])
                        refine ⟨⟨_, rfl, rfl, Or.inr ⟨by kernel_rfl, rfl⟩⟩, ?_⟩
                        (try simp only [putAll, Act.put, List.setIfInBounds_toArray, List.set_cons_zero, List.set_cons_succ])
                        refine ⟨⟨_, rfl, rfl, Or.inr ⟨by kernel_rfl, rfl⟩⟩, ?_⟩
                        (try simp only [putAll, Act.put, List.setIfInBounds_toArray, List.set_cons_zero, List.set_cons_succ])
                        refine ⟨⟨_, rfl, rfl, Or.inr ⟨by kernel_rfl, rfl⟩⟩, ?_⟩
                        (try simp only [putAll, Act.put, List.setIfInBounds_toArray, List.set_cons_zero, List.set_cons_succ])
                        refine ⟨⟨_, rfl, rfl, Or.inr ⟨by kernel_rfl, rfl⟩⟩, ?_⟩
                        (try simp only [putAll, Act.put, List.setIfInBounds_toArray, List.set_cons_zero, List.set_cons_succ])
                        refine ⟨⟨_, rfl, rfl, Or.inr ⟨by kernel_rfl, rfl⟩⟩, ?_⟩
                        (try simp only [putAll, Act.put, List.setIfInBounds_toArray, List.set_cons_zero, List.set_cons_succ])
                        refine ⟨⟨_, rfl, rfl, Or.inr ⟨by kernel_rfl, rfl⟩⟩, ?_⟩
                        (try simp only [putAll, Act.put, List.setIfInBounds_toArray, List.set_cons_zero, List.set_cons_succ])
                        refine ⟨⟨_, rfl, rfl, Or.inl ⟨by kernel_rfl, fun w hSw => ?_⟩⟩, ?_⟩
                        · (try dsimp only at hSw)
                          go_simp
                        (try simp only [putAll, Act.put, List.setIfInBounds_toArray, List.set_cons_zero, List.set_cons_succ])
                        refine ⟨⟨_, rfl, rfl, Or.inl ⟨by kernel_rfl, fun w hSw => ?_⟩⟩, ?_⟩
                        · (try dsimp only at hSw)
                          go_simp
                        (try simp only [putAll, Act.put, List.setIfInBounds_toArray, List.set_cons_zero, List.set_cons_succ])
                        refine ⟨⟨_, rfl, rfl, Or.inl ⟨by kernel_rfl, fun w hSw => ?_⟩⟩, ?_⟩
                        · (try dsimp only at hSw)
                          go_simp
                        (try simp only [putAll, Act.put, List.setIfInBounds_toArray, List.set_cons_zero, List.set_cons_succ])
                        refine ⟨⟨_, rfl, rfl, Or.inl ⟨by kernel_rfl, fun w hSw => ?_⟩⟩, ?_⟩
                        · (try dsimp only at hSw)
                          go_simp
                        (try simp only [putAll, Act.put, List.setIfInBounds_toArray, List.set_cons_zero, List.set_cons_succ])
                        refine ⟨⟨_, rfl, rfl, Or.inl ⟨by kernel_rfl, fun w hSw => ?_⟩⟩, ?_⟩
                        · (try dsimp only at hSw)
                          go_simp
                        (try simp only [putAll, Act.put, List.setIfInBounds_toArray, List.set_cons_zero, List.set_cons_succ])
                        refine ⟨⟨_, rfl, rfl, Or.inl ⟨by kernel_rfl, fun w hSw => ?_⟩⟩, ?_⟩
                        · (try dsimp only at hSw)
                          go_simp
                        (try simp only [putAll, Act.put, List.setIfInBounds_toArray, List.set_cons_zero, List.set_cons_succ])
                        refine ⟨⟨_, rfl, rfl, Or.inl ⟨by kernel_rfl, fun w hSw => ?_⟩⟩, ?_⟩
                        · (try dsimp only at hSw)
                          go_simp
                        (try simp only [putAll, Act.put, List.setIfInBounds_toArray, List.set_cons_zero, List.set_cons_succ])
                        refine ⟨⟨_, rfl, rfl, Or.inl ⟨by kernel_rfl, fun w hSw => ?_⟩⟩, ?_⟩
                        · (try dsimp only at hSw)
                          go_simp
                        (try simp only [putAll, Act.put, List.setIfInBounds_toArray, List.set_cons_zero, List.set_cons_succ])
                        refine ⟨⟨_, rfl, rfl, Or.inl ⟨by kernel_rfl, fun w hSw => ?_⟩⟩, ?_⟩
                        · (try dsimp only at hSw)
                          go_simp
                        (try simp only [putAll, Act.put, List.setIfInBounds_toArray, List.set_cons_zero, List.set_cons_succ])
                        refine ⟨⟨_, rfl, rfl, Or.inl ⟨by kernel_rfl, fun w hSw => ?_⟩⟩, ?_⟩
                        · (try dsimp only at hSw)
                          go_simp
                        (try simp only [putAll, Act.put, List.setIfInBounds_toArray, List.set_cons_zero, List.set_cons_succ])
                        refine ⟨⟨_, rfl, rfl, Or.inl ⟨by kernel_rfl, fun w hSw => ?_⟩⟩, ?_⟩
                        · (try dsimp only at hSw)
                          go_simp
                        (try simp only [putAll, Act.put, List.setIfInBounds_toArray, List.set_cons_zero, List.set_cons_succ])
                        refine ⟨⟨_, rfl, rfl, Or.inl ⟨by kernel_rfl, fun w hSw => ?_⟩⟩, ?_⟩
                        · (try dsimp only at hSw)
                          go_simp
                        (try simp only [putAll, Act.put, List.setIfInBounds_toArray, List.set_cons_zero, List.set_cons_succ])
                        refine ⟨⟨_, rfl, rfl, Or.inl ⟨by kernel_rfl, fun w hSw => ?_⟩⟩, ?_⟩
                        · (try dsimp only at hSw)
                          go_simp
                        (try simp only [putAll, Act.put, List.setIfInBounds_toArray, List.set_cons_zero, List.set_cons_succ])
                        refine ⟨⟨_, rfl, rfl, Or.inl ⟨by kernel_rfl, fun w hSw => ?_⟩⟩, ?_⟩
                        · (try dsimp only at hSw)
                          go_simp
                        (try simp only [putAll, Act.put, List.setIfInBounds_toArray, List.set_cons_zero, List.set_cons_succ])
                        refine ⟨⟨_, rfl, rfl, Or.inl ⟨by kernel_rfl, fun w hSw => ?_⟩⟩, ?_⟩
                        · (try dsimp only at hSw)
                          go_simp
                        (try simp only [putAll, Act.put, List.setIfInBounds_toArray, List.set_cons_zero, List.set_cons_succ])
                        refine ⟨⟨_, rfl, rfl, Or.inl ⟨by kernel_rfl, fun w hSw => ?_⟩⟩, ?_⟩
                        · (try dsimp only at hSw)
                          go_simp
                        (try simp only [putAll, Act.put, List.setIfInBounds_toArray, List.set_cons_zero, List.set_cons_succ])
                        refine ⟨⟨_, rfl, rfl, Or.inl ⟨by kernel_rfl, fun w hSw => ?_⟩⟩, ?_⟩
                        · (try dsimp only at hSw)
                          go_simp
                        (try simp only [putAll, Act.put, List.setIfInBounds_toArray, List.set_cons_zero, List.set_cons_succ])
                        exact True.intro
                      (try simp only [putAll, Act.put, List.setIfInBounds_toArray, List.set_cons_zero, List.set_cons_succ])
                      refine wpAnyH_ready (rs := [34]) (by kernel_rfl) (by simp) ?_
                      refine AllReadyH.cons rfl (fun K hK => ?_) AllReadyH.nil
                      go_simp
                      go_at_call 10
                      refine (HSX.out _ Cls.start).mono ?_
                      rintro e w6 ⟨rfl, ⟨vl', hB6, hbl⟩, hK6⟩
                      have d1 := HCS.out.trans (hK6.below (HBR.out.call Cls.start))
                      (try go_simp)
                      refine hK.out _ _ (HXS.out _ d1) (fun hHeld2 => ?_)
                      clear hK K
                      (try simp only [putAll, Act.put, List.setIfInBounds_toArray, List.set_cons_zero, List.set_cons_succ])
                      show wpAnyH _ _ _ _ _ (0 + 3) _ _ _
                      refine wpAnyH_takes (by kernel_rfl) (fun d _ _ _ _ h => by cases d <;> exact h) [35, 36, 37] [(some 114, .bool true), (some 115, .bool true), (some 116, .bool true)] 0 _ _ _ rfl (by kernel_rfl) ?_ (by assumption) ?_
                      · refine ⟨⟨_, rfl, rfl, Or.inl ⟨by kernel_rfl, fun w hSw => ?_⟩⟩, ?_⟩
                        · (try dsimp only at hSw)
                          go_simp
                        (try simp only [putAll, Act.put, List.setIfInBounds_toArray, List.set_cons_zero, List.set_cons_succ])
                        refine ⟨⟨_, rfl, rfl, Or.inl ⟨by kernel_rfl, fun w hSw => ?_⟩⟩, ?_⟩
                        · (try dsimp only at hSw)
                          go_simp
                        (try simp only [putAll, Act.put, List.setIfInBounds_toArray, List.set_cons_zero, List.set_cons_succ])
                        refine ⟨⟨_, rfl, rfl, Or.inl ⟨by kernel_rfl, fun w hSw => ?_⟩⟩, ?_⟩
                        · (try dsimp only at hSw)
                          go_simp
                        (try simp only [putAll, Act.put, List.setIfInBounds_toArray, List.set_cons_zero, List.set_cons_succ])
                        exact True.intro
                      (try simp only [putAll, Act.put, List.setIfInBounds_toArray, List.set_cons_zero, List.set_cons_succ])
                      refine wpAnyH_done (by kernel_rfl) ?_ _
                      have HB6 := Lib.hid hB6
                      clear hB6 hbl hK6
                      go_wp2_with fail
                      go_roundg (71 - j)
                      case measure => omega
                      case rel => exact ⟨j + 1, by omega, by omega, by omega, by go_num, by rw [HLN2.out]; go_num, by rw [HLN2.out]; omega, ⟨vl', HB6.out⟩, d1⟩
                    · rw [errV_pos hx] at hSx
                      have HSX := Lib.hid hSx
                      have hln := HLN.out
                      rw [if_neg hx] at hln
                      have HLN2 := Lib.hid hln
                      clear hSx HA HSe HLN hln
                      generalize (bRun steps j).2.length = hd at *
                      go_upto_region 23 with (fail)
                      refine wp_region_held_drew (S := fun w' => w'.cell? ⟨b2, o2, none⟩ = some (.int .i64 y0) ∧ w'.cell? ⟨b2, o2 + 1, none⟩ = some (.int .i64 y1) ∧ w'.cell? ⟨b2, o2 + 2, none⟩ = some (.int .i64 y2) ∧ w'.cell? ⟨b2, o2 + 3, none⟩ = some (.int .i64 y3)) (by kernel_rfl) (HXS.out _ HCS.out) (fun hHeld => ?_)
                      show wpAnyH _ _ _ _ _ (4 + 34) _ _ _
                      refine wpAnyH_takes (by kernel_rfl) (fun d _ _ _ _ h => by cases d <;> exact h) [0, 1, 2, 3, 4, 5, 6, 7, 8, 9, 10, 11, 12, 13, 14, 15, 16, 17, 18, 19, 20, 21, 22, 23, 24, 25, 26, 27, 28, 29, 30, 31, 32, 33] [(some 79, .slice (some ⟨b2, o2, none⟩) 4 rc), (some 80, .pointer (some ⟨b2, o2, none⟩)), (some 81, .int .i64 y0), (some 82, .bool false), (some 83, .bool false), (some 84, undef), (some 85, undef), (some 86, undef), (some 87, undef), (some 88, undef), (some 89, undef), (some 90, undef), (some 91, undef), (some 92, undef), (some 93, undef), (some 94, undef), (some 95, undef), (some 96, .bool false), (some 97, .bool false), (some 98, .slice (some ⟨b2, o2, none⟩) 4 rc), (some 99, .pointer (some ⟨b2, o2, none⟩)), (some 100, .int .i64 y0), (some 101, .bool true), (some 102, .bool true), (some 103, .pointer (some ⟨Bk, 0, none⟩)), (some 104, .slice (some ⟨b2, o2, none⟩) 4 rc), (some 105, .pointer (some ⟨b2, o2 + 1, none⟩)), (some 106, .int .i64 y1), (some 107, .slice (some ⟨b2, o2, none⟩) 4 rc), (some 108, .pointer (some ⟨b2, o2 + 2, none⟩)), (some 109, .int .i64 y2), (some 110, .slice (some ⟨b2, o2, none⟩) 4 rc), (some 111, .pointer (some ⟨b2, o2 + 3, none⟩)), (some 112, .int .i64 y3)] 4 _ _ _ rfl (by kernel_rfl) ?_ (by assumption) ?_
                      · refine ⟨⟨_, rfl, rfl, Or.inl ⟨by kernel_rfl, fun w hSw => ?_⟩⟩, ?_⟩
                        · (try dsimp only at hSw)
                          go_simp
                        (try simp only [putAll, Act.put, List.setIfInBounds_toArray, List.set_cons_zero, List.set_cons_succ])
                        refine ⟨⟨_, rfl, rfl, Or.inl ⟨by kernel_rfl, fun w hSw => ?_⟩⟩, ?_⟩
                        · (try dsimp only at hSw)
                          go_simp
                        (try simp only [putAll, Act.put, List.setIfInBounds_toArray, List.set_cons_zero, List.set_cons_succ])
                        refine ⟨⟨_, rfl, rfl, Or.inl ⟨by kernel_rfl, fun w hSw => ?_⟩⟩, ?_⟩
                        · (try dsimp only at hSw)
                          go_simp
                        (try simp only [putAll, Act.put, List.setIfInBounds_toArray, List.set_cons_zero, List.set_cons_succ])
                        refine ⟨⟨_, rfl, rfl, Or.inl ⟨by kernel_rfl, fun w hSw => ?_⟩⟩, ?_⟩
                        · (try dsimp only at hSw)
                          go_simp
                        (try simp only [putAll, Act.put, List.setIfInBounds_toArray, List.set_cons_zero, List.set_cons_succ])
                        refine ⟨⟨_, rfl, rfl, Or.inl ⟨by kernel_rfl, fun w hSw => ?_⟩⟩, ?_⟩
                        · (try dsimp only at hSw)
                          go_simp
                        (try simp only [putAll, Act.put, List.setIfInBounds_toArray, List.set_cons_zero, List.set_cons_succ])
                        refine ⟨⟨_, rfl, rfl, Or.inr ⟨by kernel_rfl, rfl⟩⟩, ?_⟩
                        (try simp only [putAll, Act.put, List.setIfInBounds_toArray, List.set_cons_zero, List.set_cons_succ])
                        refine ⟨⟨_, rfl, rfl, Or.inr ⟨by kernel_rfl, rfl⟩⟩, ?_⟩
                        (try simp only [putAll, Act.put, List.setIfInBounds_toArray, List.set_cons_zero, List.set_cons_succ])
                        refine ⟨⟨_, rfl, rfl, Or.inr ⟨by kernel_rfl, rfl⟩⟩, ?_⟩
                        (try simp only [putAll, Act.put, List.setIfInBounds_toArray, List.set_cons_zero, List.set_cons_succ])
                        refine ⟨⟨_, rfl, rfl, Or.inr ⟨by kernel_rfl, rfl⟩⟩, ?_⟩
                        (try simp only [putAll, Act.put, List.setIfInBounds_toArray, List.set_cons_zero, List.set_cons_succ])
                        refine ⟨⟨_, rfl, rfl, Or.inr ⟨by kernel_rfl, rfl⟩⟩, ?_⟩
                        (try simp only [putAll, Act.put, List.setIfInBounds_toArray, List.set_cons_zero, List.set_cons_succ])
                        refine ⟨⟨_, rfl, rfl, Or.inr ⟨by kernel_rfl, rfl⟩⟩, ?_⟩
                        (try simp only [putAll, Act.put, List.setIfInBounds_toArray, List.set_cons_zero, List.set_cons_succ])
                        refine ⟨⟨_, rfl, rfl, Or.inr ⟨by kernel_rfl, rfl⟩⟩, ?_⟩
                        (try simp only [putAll, Act.put, List.setIfInBounds_toArray, List.set_cons_zero, List.set_cons_succ])
                        refine ⟨⟨_, rfl, rfl, Or.inr ⟨by kernel_rfl, rfl⟩⟩, ?_⟩
                        (try simp only [putAll, Act.put, List.setIfInBounds_toArray, List.set_cons_zero, List.set_cons_succ])
                        refine ⟨⟨_, rfl, rfl, Or.inr ⟨by kernel_rfl, rfl⟩⟩, ?_⟩
                        (try simp only [putAll, Act.put, List.setIfInBounds_toArray, List.set_cons_zero, List.set_cons_succ])
                        refine ⟨⟨_, rfl, rfl, Or.inr ⟨by kernel_rfl, rfl⟩⟩, ?_⟩
                        (try simp only [putAll, Act.put, List.setIfInBounds_toArray, List.set_cons_zero, List.set_cons_succ])
                        refine ⟨⟨_, rfl, rfl, Or.inr ⟨by kernel_rfl, rfl⟩⟩, ?_⟩
                        (try simp only [putAll, Act.put, List.setIfInBounds_toArray, List.set_cons_zero, List.set_cons_succ])
                        refine ⟨⟨_, rfl, rfl, Or.inr ⟨by kernel_rfl, rfl⟩⟩, ?_⟩
                        (try simp only [putAll, Act.put, List.setIfInBounds_toArray, List.set_cons_zero, List.set_cons_succ])
                        refine ⟨⟨_, rfl, rfl, Or.inl ⟨by kernel_rfl, fun w hSw => ?_⟩⟩, ?_⟩
                        · (try dsimp only at hSw)
                          go_simp
                        (try simp only [putAll, Act.put, List.setIfInBounds_toArray, List.set_cons_zero, List.set_cons_succ])
                        refine ⟨⟨_, rfl, rfl, Or.inl ⟨by kernel_rfl, fun w hSw => ?_⟩⟩, ?_⟩
                        · (try dsimp only at hSw)
                          go_simp
                        (try simp only [putAll, Act.put, List.setIfInBounds_toArray, List.set_cons_zero, List.set_cons_succ])
                        refine ⟨⟨_, rfl, rfl, Or.inl ⟨by kernel_rfl, fun w hSw => ?_⟩⟩, ?_⟩
                        · (try dsimp only at hSw)
                          go_simp
                        (try simp only [putAll, Act.put, List.setIfInBounds_toArray, List.set_cons_zero, List.set_cons_succ])
                        refine ⟨⟨_, rfl, rfl, Or.inl ⟨by kernel_rfl, fun w hSw => ?_⟩⟩, ?_⟩
                        · (try dsimp only at hSw)
                          go_simp
                        (try simp only [putAll, Act.put, List.setIfInBounds_toArray, List.set_cons_zero, List.set_cons_succ])
                        refine ⟨⟨_, rfl, rfl, Or.inl ⟨by kernel_rfl, fun w hSw => ?_⟩⟩, ?_⟩
                        · (try dsimp only at hSw)
                          go_simp
                        (try simp only [putAll, Act.put, List.setIfInBounds_toArray, List.set_cons_zero, List.set_cons_succ])
                        refine ⟨⟨_, rfl, rfl, Or.inl ⟨by kernel_rfl, fun w hSw => ?_⟩⟩, ?_⟩
                        · (try dsimp only at hSw)
                          go_simp
                        (try simp only [putAll, Act.put, List.setIfInBounds_toArray, List.set_cons_zero, List.set_cons_succ])
                        refine ⟨⟨_, rfl, rfl, Or.inl ⟨by kernel_rfl, fun w hSw => ?_⟩⟩, ?_⟩
                        · (try dsimp only at hSw)
                          go_simp
                        (try simp only [putAll, Act.put, List.setIfInBounds_toArray, List.set_cons_zero, List.set_cons_succ])
                        refine ⟨⟨_, rfl, rfl, Or.inl ⟨by kernel_rfl, fun w hSw => ?_⟩⟩, ?_⟩
                        · (try dsimp only at hSw)
                          go_simp
                        (try simp only [putAll, Act.put, List.setIfInBounds_toArray, List.set_cons_zero, List.set_cons_succ])
                        refine ⟨⟨_, rfl, rfl, Or.inl ⟨by kernel_rfl, fun w hSw => ?_⟩⟩, ?_⟩
                        · (try dsimp only at hSw)
                          go_simp
                        (try simp only [putAll, Act.put, List.setIfInBounds_toArray, List.set_cons_zero, List.set_cons_succ])
                        refine ⟨⟨_, rfl, rfl, Or.inl ⟨by kernel_rfl, fun w hSw => ?_⟩⟩, ?_⟩
                        · (try dsimp only at hSw)
                          go_simp
                        (try simp only [putAll, Act.put, List.setIfInBounds_toArray, List.set_cons_zero, List.set_cons_succ])
                        refine ⟨⟨_, rfl, rfl, Or.inl ⟨by kernel_rfl, fun w hSw => ?_⟩⟩, ?_⟩
                        · (try dsimp only at hSw)
                          go_simp
                        (try simp only [putAll, Act.put, List.setIfInBounds_toArray, List.set_cons_zero, List.set_cons_succ])
                        refine ⟨⟨_, rfl, rfl, Or.inl ⟨by kernel_rfl, fun w hSw => ?_⟩⟩, ?_⟩
                        · (try dsimp only at hSw)
                          go_simp
                        (try simp only [putAll, Act.put, List.setIfInBounds_toArray, List.set_cons_zero, List.set_cons_succ])
                        refine ⟨⟨_, rfl, rfl, Or.inl ⟨by kernel_rfl, fun w hSw => ?_⟩⟩, ?_⟩
                        · (try dsimp only at hSw)
                          go_simp
                        (try simp only [putAll, Act.put, List.setIfInBounds_toArray, List.set_cons_zero, List.set_cons_succ])
                        refine ⟨⟨_, rfl, rfl, Or.inl ⟨by kernel_rfl, fun w hSw => ?_⟩⟩, ?_⟩
                        · (try dsimp only at hSw)
                          go_simp
                        (try simp only [putAll, Act.put, List.setIfInBounds_toArray, List.set_cons_zero, List.set_cons_succ])
                        refine ⟨⟨_, rfl, rfl, Or.inl ⟨by kernel_rfl, fun w hSw => ?_⟩⟩, ?_⟩
                        · (try dsimp only at hSw)
                          go_simp
                        (try simp only [putAll, Act.put, List.setIfInBounds_toArray, List.set_cons_zero, List.set_cons_succ])
                        refine ⟨⟨_, rfl, rfl, Or.inl ⟨by kernel_rfl, fun w hSw => ?_⟩⟩, ?_⟩
                        · (try dsimp only at hSw)
                          go_simp
                        (try simp only [putAll, Act.put, List.setIfInBounds_toArray, List.set_cons_zero, List.set_cons_succ])
                        refine ⟨⟨_, rfl, rfl, Or.inl ⟨by kernel_rfl, fun w hSw => ?_⟩⟩, ?_⟩
                        · (try dsimp only at hSw)
                          go_simp
                        (try simp only [putAll, Act.put, List.setIfInBounds_toArray, List.set_cons_zero, List.set_cons_succ])
                        exact True.intro
                      (try simp only [putAll, Act.put, List.setIfInBounds_toArray, List.set_cons_zero, List.set_cons_succ])
                      refine wpAnyH_ready (rs := [34]) (by kernel_rfl) (by simp) ?_
                      refine AllReadyH.cons rfl (fun K hK => ?_) AllReadyH.nil
                      go_simp
                      go_at_call 10
                      refine (HSX.out _ Cls.start).mono ?_
                      rintro e w6 ⟨rfl, ⟨vl', hB6, hbl⟩, hK6⟩
                      have d1 := HCS.out.trans (hK6.below (HBR.out.call Cls.start))
                      (try go_simp)
                      refine hK.out _ _ (HXS.out _ d1) (fun hHeld2 => ?_)
                      clear hK K
                      (try simp only [putAll, Act.put, List.setIfInBounds_toArray, List.set_cons_zero, List.set_cons_succ])
                      show wpAnyH _ _ _ _ _ (0 + 3) _ _ _
                      refine wpAnyH_takes (by kernel_rfl) (fun d _ _ _ _ h => by cases d <;> exact h) [35, 36, 37] [(some 114, .bool false), (some 115, .bool false), (some 116, .bool false)] 0 _ _ _ rfl (by kernel_rfl) ?_ (by assumption) ?_
                      · refine ⟨⟨_, rfl, rfl, Or.inl ⟨by kernel_rfl, fun w hSw => ?_⟩⟩, ?_⟩
                        · (try dsimp only at hSw)
                          go_simp
                        (try simp only [putAll, Act.put, List.setIfInBounds_toArray, List.set_cons_zero, List.set_cons_succ])
                        refine ⟨⟨_, rfl, rfl, Or.inl ⟨by kernel_rfl, fun w hSw => ?_⟩⟩, ?_⟩
                        · (try dsimp only at hSw)
                          go_simp
                        (try simp only [putAll, Act.put, List.setIfInBounds_toArray, List.set_cons_zero, List.set_cons_succ])
                        refine ⟨⟨_, rfl, rfl, Or.inl ⟨by kernel_rfl, fun w hSw => ?_⟩⟩, ?_⟩
                        · (try dsimp only at hSw)
                          go_simp
                        (try simp only [putAll, Act.put, List.setIfInBounds_toArray, List.set_cons_zero, List.set_cons_succ])
                        exact True.intro
                      (try simp only [putAll, Act.put, List.setIfInBounds_toArray, List.set_cons_zero, List.set_cons_succ])
                      refine wpAnyH_done (by kernel_rfl) ?_ _
                      have HB6 := Lib.hid hB6
                      clear hB6 hbl hK6
                      go_wp2_with fail
                      go_roundg (71 - j)
                      case measure => omega
                      case rel => exact ⟨j + 1, by omega, by omega, by omega, by go_num, by rw [HLN2.out]; rfl, by rw [HLN2.out]; omega, ⟨vl', HB6.out⟩, d1⟩
                · have h4i : ((q.length : Int) != 4) = true := by simp; omega
                  have HSS := Lib.hid (show bRun steps (j + 1) = bRun steps j from by rw [HST.out, bStep, if_neg h4])
                  clear h4 HST e4
                  go_wp2_with fail
                  go_roundg (71 - j)
                  case measure => omega
                  case rel => exact ⟨j + 1, by omega, by omega, by omega, by go_num, by rw [HSS.out], by rw [HSS.out]; exact hhad, ⟨vl, by rw [HSS.out]; exact HBR.out⟩, hbel⟩
              · have hjL : (bRun steps j).2.length = L := by
                  by_cases h70 : j < n ∧ j < 70
                  · have : ¬ (bRun steps j).2.length < L := fun h => hlt ⟨h70, h⟩
                    omega
                  · have hjK : j = K := by omega
                    have : (bRun steps j).2.length = L0 := by rw [hjK, ← HS0.out]; exact HL0.out.symm
                    omega
                have hjs := HALL.out j (by omega) hjL
                have hBr := HBR.out
                rw [hjs] at hBr
                rw [hjL]
                have hbelw := HW4.out.trans (hbel.mono HW4.out.size)
                have hsq := HLS.out.ok.sq
                have HTX := Lib.hid (fun W B Bk G vs vl (h : BookAt W B Bk G vs vl s.1 s.2) => Text_any W B Bk G vs vl s.1 s.2 h (Nat.le_trans HLS.out.ok.len (by omega)) HLS.out.ok.line)
                have HRW := Lib.hid (fun W B Bk G vs vl (h : BookAt W B Bk G vs vl s.1 s.2) => Rows_any W B Bk G vs vl s.1 s.2 h)
                have HEE := Lib.hid (fun W G1 G2 (h1 : RowsAt W (some ⟨G1, 0, none⟩) 4 s.1) (h2 : RowsAt W (some ⟨G2, 0, none⟩) 4 s.1) => ERows_like (some ⟨G1, 0, none⟩) (some ⟨G2, 0, none⟩) 4 4 4 s.1 W h1 h2 (by omega) (fun k hk => by rw [hsq.2 k hk]; omega))
                have HBo := Lib.hid (fun W (h : Below wr.heap.size wr W) => HO.out.call (hbel.trans (h.mono hbel.size)))
                have HBb := Lib.hid (fun W (h : Below wr.heap.size wr W) => hBr.call h)
                have h4r := hsq.1
                generalize hTT : textOf s.2 = T2 at *
                have hno : ¬ ((j : Int) < n ∧ (j : Int) < 70 ∧ (L : Int) < L) := by omega
                clear hsq hBr HO HBR HR HT HALL HLS HS HSL HL0 HS0 HTL HLEN hTT
                by_cases hz1 : j < n
                · have hz1i : (j : Int) < n := by omega
                  by_cases hz2 : j < 70
                  · have hz2i : (j : Int) < 70 := by omega
                    go_wp2_with fail
                    go_at_call 9
                    refine (HRW.out _ _ _ _ _ _ (HBo.out _ (Below.refl _ _))).mono ?_
                    rintro e w6 ⟨⟨G1, vs1, rfl, ho1⟩, hb6⟩
                    have hr1 := ho1.read
                    rw [h4r] at hr1
                    go_wp2_with fail
                    go_at_call 9
                    refine (HRW.out _ _ _ _ _ _ (HBb.out _ hb6)).mono ?_
                    rintro e w7 ⟨⟨G2, vs2, rfl, ho2⟩, hb7⟩
                    have d7 := below_trans hb6 hb7
                    have hr2 := ho2.read
                    rw [h4r] at hr2
                    go_wp2_with fail
                    go_at_call 11
                    refine (HEE.out _ _ _ (hr1.call hb7) hr2).mono ?_
                    rintro e w8 ⟨rfl, hb8⟩
                    have d8 := below_trans d7 hb8
                    clear ho1 ho2 hr1 hr2
                    go_wp2_with fail
                    go_at_call 19
                    refine (HTX.out _ _ _ _ _ _ (HBo.out _ d8)).mono ?_
                    rintro e w9 ⟨rfl, hb9⟩
                    have d9 := below_trans d8 hb9
                    go_wp2_with fail
                    go_at_call 19
                    refine (HTX.out _ _ _ _ _ _ (HBb.out _ d9)).mono ?_
                    rintro e w10 ⟨rfl, hb10⟩
                    have d10 := below_trans d9 hb10
                    go_wp2_with fail
                    go_at_call 19
                    refine (HTX.out _ _ _ _ _ _ (HBo.out _ d10)).mono ?_
                    rintro e w11 ⟨rfl, hb11⟩
                    have d11 := below_trans d10 hb11
                    go_wp2_with fail
                    go_ret
                    exact ⟨rfl, below_trans hbelw d11⟩
                  · have hz2i : ¬ (j : Int) < 70 := by omega
                    go_wp2_with fail
                    go_at_call 9
                    refine (HRW.out _ _ _ _ _ _ (HBo.out _ (Below.refl _ _))).mono ?_
                    rintro e w6 ⟨⟨G1, vs1, rfl, ho1⟩, hb6⟩
                    have hr1 := ho1.read
                    rw [h4r] at hr1
                    go_wp2_with fail
                    go_at_call 9
                    refine (HRW.out _ _ _ _ _ _ (HBb.out _ hb6)).mono ?_
                    rintro e w7 ⟨⟨G2, vs2, rfl, ho2⟩, hb7⟩
                    have d7 := below_trans hb6 hb7
                    have hr2 := ho2.read
                    rw [h4r] at hr2
                    go_wp2_with fail
                    go_at_call 11
                    refine (HEE.out _ _ _ (hr1.call hb7) hr2).mono ?_
                    rintro e w8 ⟨rfl, hb8⟩
                    have d8 := below_trans d7 hb8
                    clear ho1 ho2 hr1 hr2
                    go_wp2_with fail
                    go_at_call 19
                    refine (HTX.out _ _ _ _ _ _ (HBo.out _ d8)).mono ?_
                    rintro e w9 ⟨rfl, hb9⟩
                    have d9 := below_trans d8 hb9
                    go_wp2_with fail
                    go_at_call 19
                    refine (HTX.out _ _ _ _ _ _ (HBb.out _ d9)).mono ?_
                    rintro e w10 ⟨rfl, hb10⟩
                    have d10 := below_trans d9 hb10
                    go_wp2_with fail
                    go_at_call 19
                    refine (HTX.out _ _ _ _ _ _ (HBo.out _ d10)).mono ?_
                    rintro e w11 ⟨rfl, hb11⟩
                    have d11 := below_trans d10 hb11
                    go_wp2_with fail
                    go_ret
                    exact ⟨rfl, below_trans hbelw d11⟩
                · have hz1i : ¬ (j : Int) < n := by omega
                  go_wp2_with fail
                  go_at_call 9
                  refine (HRW.out _ _ _ _ _ _ (HBo.out _ (Below.refl _ _))).mono ?_
                  rintro e w6 ⟨⟨G1, vs1, rfl, ho1⟩, hb6⟩
                  have hr1 := ho1.read
                  rw [h4r] at hr1
                  go_wp2_with fail
                  go_at_call 9
                  refine (HRW.out _ _ _ _ _ _ (HBb.out _ hb6)).mono ?_
                  rintro e w7 ⟨⟨G2, vs2, rfl, ho2⟩, hb7⟩
                  have d7 := below_trans hb6 hb7
                  have hr2 := ho2.read
                  rw [h4r] at hr2
                  go_wp2_with fail
                  go_at_call 11
                  refine (HEE.out _ _ _ (hr1.call hb7) hr2).mono ?_
                  rintro e w8 ⟨rfl, hb8⟩
                  have d8 := below_trans d7 hb8
                  clear ho1 ho2 hr1 hr2
                  go_wp2_with fail
                  go_at_call 19
                  refine (HTX.out _ _ _ _ _ _ (HBo.out _ d8)).mono ?_
                  rintro e w9 ⟨rfl, hb9⟩
                  have d9 := below_trans d8 hb9
                  go_wp2_with fail
                  go_at_call 19
                  refine (HTX.out _ _ _ _ _ _ (HBb.out _ d9)).mono ?_
                  rintro e w10 ⟨rfl, hb10⟩
                  have d10 := below_trans d9 hb10
                  go_wp2_with fail
                  go_at_call 19
                  refine (HTX.out _ _ _ _ _ _ (HBo.out _ d10)).mono ?_
                  rintro e w11 ⟨rfl, hb11⟩
                  have d11 := below_trans d10 hb11
                  go_wp2_with fail
                  go_ret
                  exact ⟨rfl, below_trans hbelw d11⟩
          · exact absurd rfl h4
theorem frame_own : ownKnob Tryd.prog.godebug = none := by kernel_rfl
theorem frame_laid : laidOutB Tryd.prog = true := by kernel_rfl
theorem frame_pg : Tryd.prog.globalNamed "internal/strconv.uint64pow10" = some 2 := by kernel_rfl
theorem frame_pt : (Tryd.prog.globals[2]?).map (·.type) = some 142 := by kernel_rfl
theorem frame_pd {H : Type} : (Rows.laid_internal_strconv_uint64pow10 : DataW H) = Lib.tabData .u64 Lib.pow10Tab := by rfl
theorem tab_of_laid {W : World} (h : laidMetH Tryd.prog Rows.bookTornRow.laid W) : Tab W.heap.size W := by
  have h' : laidMet Tryd.prog Rows.bookTornRow.laid W := by rw [MakeChecks.laidMetH_plain _ _ _ (by kernel_rfl)] at h; exact h
  have hr : Lib.VarReads Tryd.prog W "internal/strconv.uint64pow10" Rows.laid_internal_strconv_uint64pow10 := Lib.laidMet.reads h' (by simp [Rows.bookTornRow])
  rw [frame_pd] at hr
  exact Lib.tabBelow_of_tabIs (tabIs_of_reads frame_pg frame_pt Tryd.underlying142 Tryd.underlying127 (by kernel_rfl) (by kernel_rfl) hr)
theorem glob_of_laid {W : World} (h : laidMetH Tryd.prog Rows.bookTornRow.laid W) (hS : W.ShapedOpen Tryd.prog) : Glob W.heap.size W := by
  have h' : laidMet Tryd.prog Rows.bookTornRow.laid W := by
    have h2 := h
    rw [MakeChecks.laidMetH_plain _ _ _ (by kernel_rfl)] at h2
    exact h2
  have hr : Lib.VarReads Tryd.prog W "strconv.ErrRange" Rows.laid_strconv_ErrRange := Lib.laidMet.reads h' (by simp [Rows.bookTornRow])
  exact glob_of (tab_of_laid h) (iface_of_reads (g := 6) (by kernel_rfl) (by kernel_rfl) Tryd.underlying29 hr) hS
noncomputable def laidWorld (os : Os) : World := (World.holding Tryd.prog os ⟨#[], #[], []⟩).layVars Tryd.prog (Rows.bookTornRow.laid.filter fun x => x.2.handleName?.isNone)
theorem laidWorld_os (os : Os) : (laidWorld os).os = os := World.layVars_os _ _ _
theorem laidWorld_met (os : Os) (args : Array Value) : laidMetH Tryd.prog Rows.bookTornRow.laid ((laidWorld os).forCall (fun _ _ => 0) ⟨#[], args, []⟩).memory :=
  laidMetH_of_parts (laidMet.of_heap (by simp [laidWorld, World.memory, World.forCall, Input.heap]) (laidMet_over (w0 := (World.holding Tryd.prog os ⟨#[], #[], []⟩)) (by kernel_rfl) (by kernel_rfl))) (by kernel_rfl)
set_option maxRecDepth 100000 in
theorem frame_lifted (os : Os) (started : os.Started) (H : Type) (enc : TypeId × Value → H) :
    ReturnsInHanded {} Tryd.checked os 5 .any (fun w args => (Rows.bookTornSpec.pre enc Tryd.prog Tryd.f5 Rows.bookTornRow.domain false w args ∧ laidMetH Tryd.prog Rows.bookTornRow.laid w) ∧ sizedMet enc Tryd.prog Tryd.f5 (OpenSpec.ofChange Rows.bookTornSpec) false w args) (Rows.bookTornSpec.post enc Tryd.prog Tryd.f5 false true false false) := by
  refine returns_and_shaped (C := Tryd.checked) (X := (fun w _ => laidMetH Tryd.prog Rows.bookTornRow.laid w)) (fun _ _ _ hh h => h.of_heap hh) frame_own started (by kernel_rfl) Tryd.func5
    (ChangeSpec.witness_shaped (enc := enc) (C := Tryd.checked) (os := os) (X := (fun w _ => laidMetH Tryd.prog Rows.bookTornRow.laid w)) false (laidWorld os) #[.slice none 0 0, .int .i64 0] 8 (laidWorld_os os) (World.shaped_of_ZipB (by kernel_rfl) (by kernel_rfl)) (by kernel_rfl) (by kernel_rfl) (by kernel_rfl) (laidWorld_met os _)) ?_
  intro W base args ds gs before hval0 hW hcnd _ hLaid hSh _
  have hval : ∀ (j : Nat) t v, Tryd.f5.params[j]? = some t → args[j]? = some v → Value.okWide Tryd.prog W .any base t v := hval0
  have hW' := hW
  obtain ⟨p, q, hA0, hV, rfl, hfz, hnd⟩ := hW
  have hA : DataW.TrodAll enc Tryd.prog W 0 (fun _ => true) true Tryd.f5.params.toList args.toList ds p := hA0
  rw [Tryd.params5] at hA hval
  obtain ⟨v0, vs0, d0, ds0, p0, q0, hargs, rfl, rfl, h0, r0⟩ := trodAll_cons hA
  obtain ⟨v1, vs1, d1, ds1, p1, q1, rfl, rfl, rfl, h1, r1⟩ := trodAll_cons r0
  obtain ⟨rfl, rfl, rfl⟩ := trodAll_nil r1
  obtain rfl : args = #[v0, v1] := by cases args; simp_all
  obtain ⟨rfl, rfl⟩ := trodVars_none hV
  have k0 := h0
  have lt0 : ∀ x ∈ p0, x.block < W.heap.size := by obtain ⟨m, hm⟩ := k0; exact DataW.trod_lt m _ _ _ hm
  obtain ⟨a0, len0, cap0, rfl⟩ := okWide_slice Tryd.underlying22 (hval 0 22 v0 rfl rfl)
  obtain ⟨xs0, hxs0, hcap0, hmax0⟩ := open_rowsAt Tryd.underlying22 Tryd.underlying38 Tryd.underlying3 (by kernel_rfl) (by kernel_rfl) h0
  have k1 := h1
  have lt1 : ∀ x ∈ p1, x.block < W.heap.size := by obtain ⟨m, hm⟩ := k1; exact DataW.trod_lt m _ _ _ hm
  obtain ⟨a1, rfl, rfl, rfl, w1⟩ := open_int Tryd.underlying3 (hval 1 3 v1 rfl rfl) h1
  clear hA0 hval0
  refine (BookTorn_any a0 len0 cap0 xs0 hxs0 hcap0 hmax0 a1 W rfl (glob_of_laid hLaid hSh)).mono fun e W' ⟨he, bel⟩ => ?_
  subst he
  exact ⟨_, rfl, _, _, _, [], _, [], hW', trodAll_mk1 (shut_bool Tryd.underlying4 _), (trodAll_cons_mk (Below.trod frame_laid (by kernel_rfl) (of_decide_eq_true (by kernel_rfl)) k0 bel lt0) (trodAll_cons_mk (Below.trod frame_laid (by kernel_rfl) (of_decide_eq_true (by kernel_rfl)) k1 bel lt1) trodAll_mk0)), rfl, bel.frame _, fun h => by cases h⟩

theorem BookTorn_over : Rows.bookTornRow.holds Tryd.pinned (OpenSpec.ofChange Rows.bookTornSpec) :=
  OpenClaim.holds_of_wide 5 Tryd.f5 rfl rfl rfl rfl rfl rfl rfl ⟨rfl, rfl, rfl, rfl, rfl⟩ rfl rfl rfl rfl rfl (by kernel_rfl) Tryd.func5 (by kernel_rfl)
    (of_decide_eq_true (by kernel_rfl)) (by unfold Func.isWrapper; first | (rw [if_pos (by decide +kernel)]; kernel_rfl) | (rw [if_neg (by decide +kernel)]; exact ⟨rfl, rfl⟩))
    (fun os started H enc _ => frame_lifted os started H enc)

theorem frame_wants : ∀ t ∈ [22, 3], Tryd.prog.wantsStandIn t = false := by
  intro t ht
  simp only [List.mem_cons, List.not_mem_nil, or_false] at ht
  rcases ht with rfl | rfl <;> kernel_rfl
/-- THE STATEMENT: THE TIED CARD -/
theorem BookTorn_holds : Rows.BookTornCardSaid :=
  Claim7.holds_tied_plain_at .later [] [.data, .data, .data, .data, .sentinel, .sentinel, .pinned] true _ true
    BookTorn_over (fun _ h => by cases h) (by kernel_rfl) (fun _ h => by cases h) bookTorn_row_tie rfl ⟨rfl, rfl⟩ (by kernel_rfl) rfl
    (fun f fn hf hfn => by
      obtain rfl : f = 5 := Option.some.inj ((show Tryd.prog.funcNamed "rankmere/rankmerelaw4.BookTorn" = some 5 by kernel_rfl).symm.trans hf) |>.symm
      obtain rfl : fn = Tryd.f5 := (Option.some.inj (Tryd.func5.symm.trans hfn)).symm
      exact ⟨by kernel_rfl, fun j t ht => by
        rw [Tryd.params5] at ht
        exact frame_wants t (by have := Array.mem_of_getElem? ht; simpa using this)⟩)
    (by kernel_rfl)
end Go.Proofs.YtkpoemfdepjkaaaDoor.BookTornP
