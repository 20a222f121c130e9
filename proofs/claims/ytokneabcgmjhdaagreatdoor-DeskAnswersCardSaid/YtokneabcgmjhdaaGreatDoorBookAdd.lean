/- Contract of book's Add. -/
import Derived.Test.YtokneabcgmjhdaaGreatDoorBookSet
import Derived.Test.YtokneabcgmjhdaaGreatDoorTail
import Derived.Deep.DeepCutAuto
namespace Go.Proofs.YtokneabcgmjhdaaGreatDoor
open Go.RowKit
set_option linter.unusedVariables false
set_option linter.unusedSimpArgs false

set_option maxRecDepth 100000 in
set_option maxHeartbeats 1000000 in
theorem Add_bad (w : World) (B Bk G : Nat) (vs : List Value) (vl : Value) (rows : List (List Int)) (lines : List ByteArray) (hB : BookAt w B Bk G vs vl rows lines) (i j n : Int) (he : addErr i j n lines.length ≠ 0) :
    Calls Tryz.prog 63 #[.pointer (some ⟨Bk, 0, none⟩), .int .i64 i, .int .i64 j, .int .i64 n] w fun e w' => e = .returned (errV (addErr i j n lines.length)) ∧ Below w.heap.size w w' := by
  have h1 := fun W => place_any i j n W
  have h2 := fun W (h : BookAt W B Bk G vs vl rows lines) => room_any W B Bk G vs vl rows lines h
  have HB := Lib.hid hB
  by_cases hp : placeErr i j n = 0
  · rw [hp, errV_zero] at h1
    by_cases hij : i = j
    · have hv : addErr i j n lines.length = 6 := by unfold addErr; rw [if_neg (by omega), if_pos hij]
      rw [hv]
      have hb : (i == j) = true := by simp [hij]
      clear hB he h2 hv hij hp
      go_enter Tryz.func63, Tryz.ntmps63
      go_wp2_with fail
      go_at_call 89
      refine (h1 _).mono ?_
      rintro e w1 ⟨rfl, hb1⟩
      go_wp2_with fail
      go_ret
      exact ⟨rfl, hb1⟩
    · have hL : 60 ≤ lines.length := by
        unfold addErr at he
        rw [if_neg (by omega), if_neg hij] at he
        by_cases h : 60 ≤ lines.length
        · exact h
        · rw [if_neg h] at he; exact absurd rfl he
      have hv : addErr i j n lines.length = 4 := by unfold addErr; rw [if_neg (by omega), if_neg hij, if_pos hL]
      rw [if_pos hL, errV_pos (by decide)] at h2
      rw [hv]
      have hb : (i == j) = false := by simp [hij]
      clear hB he hv hij hp hL
      go_enter Tryz.func63, Tryz.ntmps63
      go_wp2_with fail
      go_at_call 89
      refine (h1 _).mono ?_
      rintro e w1 ⟨rfl, hb1⟩
      go_wp2_with fail
      go_at_call 90
      refine (h2 _ (HB.out.call hb1)).mono ?_
      rintro e w2 ⟨rfl, rfl⟩
      go_wp2_with fail
      go_ret
      exact ⟨rfl, hb1⟩
  · have hv : addErr i j n lines.length = placeErr i j n := by unfold addErr; rw [if_pos hp]
    rw [hv, errV_pos hp]
    rw [errV_pos hp] at h1
    generalize placeErr i j n = x at *
    clear hB he h2 hv hp
    go_enter Tryz.func63, Tryz.ntmps63
    go_wp2_with fail
    go_at_call 89
    refine (h1 _).mono ?_
    rintro e w1 ⟨rfl, hb1⟩
    go_wp2_with fail
    go_ret
    exact ⟨rfl, hb1⟩

/-- row j, n times, added to row i: so many columns are done -/
def addTo (rows : List (List Int)) (i j : Nat) (n : Int) : Nat → List (List Int)
  | 0 => rows
  | c + 1 => putE (addTo rows i j n c) i c ((fn rows i c + n * fn rows j c) % 9973)
theorem addTo_sq {rows : List (List Int)} (h : Sq 4 rows) (i j : Nat) (n : Int) : ∀ c, Sq 4 (addTo rows i j n c)
  | 0 => h
  | c + 1 => put_sq (addTo_sq h i j n c) _ _ _
theorem fn_addTo {rows : List (List Int)} (h : Sq 4 rows) {i j : Nat} (hi : i < 4) (hj : j < 4) (n : Int) (a b : Nat) : ∀ c, c ≤ 4 → fn (addTo rows i j n c) a b = if a = i ∧ b < c then (fn rows i b + n * fn rows j b) % 9973 else fn rows a b
  | 0, _ => by rw [if_neg (by omega)]; rfl
  | c + 1, hc => by
    rw [addTo, fn_put (addTo_sq h i j n c) hi (by omega), fn_addTo h hi hj n a b c (by omega)]
    by_cases h1 : a = i
    · subst h1
      by_cases h2 : b = c
      · subst h2
        rw [if_pos ⟨rfl, rfl⟩, if_pos ⟨rfl, by omega⟩]
      · rw [if_neg (by omega)]
        by_cases h3 : b < c
        · rw [if_pos ⟨rfl, h3⟩, if_pos ⟨rfl, by omega⟩]
        · rw [if_neg (by omega), if_neg (by omega)]
    · rw [if_neg (by omega), if_neg (by omega), if_neg (by omega)]

set_option maxRecDepth 100000 in
set_option maxHeartbeats 2000000 in
theorem Add_good (w : World) (B Bk G : Nat) (vs : List Value) (vl : Value) (rows : List (List Int)) (lines : List ByteArray) (hB : BookAt w B Bk G vs vl rows lines) (hBw : B ≤ w.heap.size) (hT : Tab B w) (i j n : Int) (he : addErr i j n lines.length = 0) :
    Calls Tryz.prog 63 #[.pointer (some ⟨Bk, 0, none⟩), .int .i64 i, .int .i64 j, .int .i64 n] w fun e w' => e = .returned .nilIface ∧ BookDone w w' B Bk G vs vl (addTo rows i.toNat j.toNat n 4) (lines ++ [lineOf wordA [i, j, n]]) := by
  have hp : placeErr i j n = 0 := by
    unfold addErr at he
    by_cases h : placeErr i j n = 0
    · exact h
    · rw [if_pos h] at he; exact absurd he h
  have hij : i ≠ j := by
    unfold addErr at he
    rw [if_neg (by omega)] at he
    intro h; rw [if_pos h] at he; cases he
  have hL : ¬ 60 ≤ lines.length := by
    unfold addErr at he
    rw [if_neg (by omega), if_neg hij] at he
    intro h; rw [if_pos h] at he; cases he
  obtain ⟨⟨hi0, hi3⟩, ⟨hj0, hj3⟩, hn0, hn3⟩ := placeErr_ok hp
  have h1 := fun W => place_any i j n W
  have h2 := fun W (h : BookAt W B Bk G vs vl rows lines) => room_any W B Bk G vs vl rows lines h
  rw [hp, errV_zero] at h1
  rw [if_neg hL, errV_zero] at h2
  have hbij : (i == j) = false := by simp [hij]
  obtain ⟨p, rfl⟩ : ∃ p : Nat, i = p := ⟨i.toNat, by omega⟩
  obtain ⟨q, rfl⟩ : ∃ q : Nat, j = q := ⟨j.toNat, by omega⟩
  have hpn : p < 4 := by omega
  have hqn : q < 4 := by omega
  have hpq : p ≠ q := by omega
  have H3 := Lib.hid (list3 (p : Int) q n ⟨⟨by omega, by omega⟩, ⟨by omega, by omega⟩, by omega, by omega⟩)
  have HB := Lib.hid hB
  have HT := Lib.hid hT
  have HSQ := Lib.hid hB.sq
  have HENT := Lib.hid hB.ent
  have hL2 : lines.length ≤ 1000 := by omega
  rw [show (p : Int).toNat = p by omega, show (q : Int).toNat = q by omega]
  clear hB he hp hL hT hij
  go_enter Tryz.func63, Tryz.ntmps63
  go_wp2_with fail
  go_at_call 89
  refine (h1 _).mono ?_
  rintro e w1 ⟨rfl, hb1⟩
  go_wp2_with fail
  go_at_call 90
  refine (h2 _ (HB.out.call hb1)).mono ?_
  rintro e w2 ⟨rfl, rfl⟩
  have HB1 := Lib.hid (HB.out.call hb1)
  have q0 := HB1.out.cell0
  have hp0 : (0 : Int) ≤ p := by omega
  have hq0 : (0 : Int) ≤ q := by omega
  have hp4 : (p : Int) < 4 := by omega
  have hq4 : (q : Int) < 4 := by omega
  obtain ⟨g, rc, -, -, -, e4, -, -, -⟩ := HB1.out.at (j := 0) hpn (by omega)
  go_wp2_with fail
  go_loopg [36] 5 (fun gg ci wr => ∃ c : Nat, c ≤ 4 ∧ 4 - c < gg ∧ ci = .int .i64 c ∧ BookAt wr B Bk G vs vl (addTo rows p q n c) lines ∧ BKept w wr Bk vs vl)
  case atStart => exact ⟨0, by omega, by omega, rfl, HB1.out, BKept.of _ _ _ hb1⟩
  case round =>
    clear q0 e4 HB1
    obtain ⟨c, hc, hg, rfl, hBr, hKr⟩ := hrel
    have HBR := Lib.hid hBr
    have HKR := Lib.hid hKr
    have hBsz : B ≤ wr.heap.size := Nat.le_trans hBw hKr.size
    clear hBr hKr
    by_cases hlt : c < 4
    · have q0 := HBR.out.cell0
      obtain ⟨g1, rc1, e1, e2, e3, e4, e5, e6, e7⟩ := HBR.out.at hpn hlt
      obtain ⟨g2, rc2, k1, k2, k3, k4, k5, k6, -⟩ := HBR.out.at hqn hlt
      have hc0 : (0 : Int) ≤ c := by omega
      have hc4 : (c : Int) < 4 := by omega
      have hU : fn (addTo rows p q n c) p c = fn rows p c := by rw [fn_addTo HSQ.out hpn hqn n p c c (by omega), if_neg (by omega)]
      have hV : fn (addTo rows p q n c) q c = fn rows q c := by rw [fn_addTo HSQ.out hpn hqn n q c c (by omega), if_neg (by omega)]
      rw [hU] at e6
      rw [hV] at k6
      have hu := HENT.out p c hpn hlt
      have hv := HENT.out q c hqn hlt
      obtain ⟨u, hu'⟩ : ∃ u, u = fn rows p c := ⟨_, rfl⟩
      obtain ⟨v, hv'⟩ : ∃ v, v = fn rows q c := ⟨_, rfl⟩
      rw [← hu'] at e6 hu
      rw [← hv'] at k6 hv
      obtain ⟨t, ht⟩ : ∃ t, t = n * v := ⟨_, rfl⟩
      have ht1 : 0 ≤ t := by rw [ht]; exact Int.mul_nonneg hn0 (by omega)
      have ht2 : t ≤ 9972 * 9972 := by rw [ht]; exact Int.mul_le_mul hn3 (by omega) (by omega) (by omega)
      have hts : n * v = t := ht.symm
      have hw1 : IntKind.i64.wrap t = t := IntWalk.i64_in _ (by omega)
      have hw2 : IntKind.i64.wrap (u + t) = u + t := IntWalk.i64_in _ (by omega)
      have hF := fun W => Field_any (u + t) W (by omega) (by omega)
      obtain ⟨r, hr⟩ : ∃ r, r = (u + t) % 9973 := ⟨_, rfl⟩
      rw [← hr] at hF
      have hr0 : 0 ≤ r := by omega
      have hr1 : r < 9973 := by omega
      have HST := Lib.hid (fun W (hC : Below wr.heap.size wr W) => (HBR.out.call hC).store hpn hlt e1 r hr0 hr1)
      have HKS := Lib.hid (fun W (hC : Below wr.heap.size wr W) => (BKept.of Bk vs vl hC).trans (BKept.store (w := W) (Bk := Bk) (vl := vl) hpn e1 c (.int .i64 r)) (fun b h => Or.inl h))
      have HR := Lib.hid (show putE (addTo rows p q n c) p c r = addTo rows p q n (c + 1) from by rw [addTo, hr, ht, hu', hv'])
      have z1 : Bk < wr.heap.size := HBR.out.lt
      have z2 := World.block_lt_of_cell? _ _ e4
      dsimp only at z2
      have HFF := Lib.hid hF
      have hwrp : Below wr.heap.size wr wr := Below.refl _ _
      have z3 : G < wr.heap.size := World.block_lt_of_cell? _ _ e4
      have z4 : g1 < wr.heap.size := e2
      have z5 : g2 < wr.heap.size := k2
      clear hu' hv' ht hr hF e1 e2 k2 e3 e7 k1 k3 k5 hU hV hi0 hi3 hj0 hj3
      go_wp2_with fail
      refine wp_region_quiet_tail (C := Cls wr.heap.size wr) 33 (by kernel_rfl) (by kernel_rfl) Cls.start ?_
      simp only [List.take_succ_cons, List.take_zero, List.drop_succ_cons, List.drop_zero]
      repeat
        (refine wpQuiet_step (fun K hK => ?_)
         go_simp
         first
           | (refine hK _ ?_; clear hK K)
           | (apply Exists.intro
              refine ⟨fun w' hC => ?_, hK _ ?_⟩
              · (obtain ⟨hr, hr2⟩ := hC.rules
                 first
                   | (go_at_call 92; exact Cls.callSame hC (HFF.out _))
                   | (go_simp; done)
                   | (go_simp; rfl))
              clear hK K))
      refine wpQuiet_nil ?_
      intro W5 hW5
      obtain ⟨hcc, hff⟩ := hW5.rules
      go_wp2_with fail
      go_roundg (4 - c)
      case measure => omega
      case rel => exact ⟨c + 1, by omega, by omega, by go_num, by rw [← HR.out]; exact HST.out _ hW5, HKR.out.trans (HKS.out _ hW5) (fun b h => Or.inl h)⟩
    · obtain rfl : c = 4 := by omega
      have HT4 := Lib.hid (HT.out.call (HKR.out.below HB.out))
      have HN := Lib.hid (fun (o : Obj) (al : Option Addr) (h : IntsAt (wr.alloc o) al 3 [(p : Int), q, n]) => Note_any (wr.alloc o) B Bk G vs vl (addTo rows p q n 4) lines (HBR.out.call ((Below.refl _ _).alloc (Nat.le_refl _) _)) (le_alloc hBsz _) (HT4.out.call ((Below.refl _ _).alloc hBsz _)) hL2 wordA rfl [(p : Int), q, n] rfl H3.out al 3 h)
      clear hi0 hi3 hj0 hj3
      go_wp2_with fail
      go_at_call 91
      refine (HN.out _ _ (IntsAt_three _ _ _ _ _ (by go_simp) (by go_simp) (by go_simp))).mono ?_
      rintro e w5 ⟨rfl, ⟨vl', hB5, hbl⟩, hK5⟩
      have HB5 := Lib.hid hB5
      have HBL := Lib.hid hbl
      have HK5 := Lib.hid hK5
      clear hB5 hbl hK5
      go_wp2_with fail
      go_ret
      refine ⟨rfl, ⟨vl', HB5.out, fun b h => ?_⟩, (HKR.out.trans (BKept.of Bk vs vl ((Below.refl _ _).alloc (Nat.le_refl _) _)) (fun b h => Or.inl h)).trans HK5.out (fun b h => Or.inl h)⟩
      have h1 := HKR.out.size
      rcases HBL.out b h with h | h
      · exact Or.inl h
      · simp at h; exact Or.inr (by omega)
end Go.Proofs.YtokneabcgmjhdaaGreatDoor
