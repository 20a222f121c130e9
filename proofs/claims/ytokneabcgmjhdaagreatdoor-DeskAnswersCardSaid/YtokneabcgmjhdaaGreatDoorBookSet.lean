/- Contract of book's Set. -/
import Derived.Test.YtokneabcgmjhdaaGreatDoorBookFn
namespace Go.Proofs.YtokneabcgmjhdaaGreatDoor
open Go.RowKit
set_option linter.unusedVariables false
set_option linter.unusedSimpArgs false

def wordS : ByteArray := ⟨#[115]⟩
def wordA : ByteArray := ⟨#[97]⟩
/-- what a book's work makes of it, where nothing is wrong -/
def BookDone (w w' : World) (B Bk G : Nat) (vs : List Value) (vl : Value) (rows : List (List Int)) (lines : List ByteArray) : Prop :=
  (∃ vl', BookAt w' B Bk G vs vl' rows lines ∧ ∀ b, vl'.ownBlock = some b → vl.ownBlock = some b ∨ w.heap.size ≤ b) ∧ BKept w w' Bk vs vl
theorem list3 (i j n : Int) (h : (0 ≤ i ∧ i ≤ 3) ∧ (0 ≤ j ∧ j ≤ 3) ∧ 0 ≤ n ∧ n ≤ 9972) (k : Nat) : 0 ≤ [i, j, n].getD k 0 ∧ [i, j, n].getD k 0 ≤ 9972 := by
  match k with
  | 0 => simp; omega
  | 1 => simp; omega
  | 2 => simp; omega
  | k + 3 => simp
theorem room01 (L : Nat) : errV (if 60 ≤ L then 4 else 0) = .nilIface ∨ errV (if 60 ≤ L then 4 else 0) = .iface 80 (.int .i64 4) := by
  by_cases h : 60 ≤ L
  · rw [if_pos h]; right; rfl
  · rw [if_neg h]; left; rfl

set_option maxRecDepth 100000 in
set_option maxHeartbeats 1000000 in
theorem Set_bad (w : World) (B Bk G : Nat) (vs : List Value) (vl : Value) (rows : List (List Int)) (lines : List ByteArray) (hB : BookAt w B Bk G vs vl rows lines) (i j n : Int) (he : setErr i j n lines.length ≠ 0) :
    Calls Tryz.prog 62 #[.pointer (some ⟨Bk, 0, none⟩), .int .i64 i, .int .i64 j, .int .i64 n] w fun e w' => e = .returned (errV (setErr i j n lines.length)) ∧ Below w.heap.size w w' := by
  have h1 := fun W => place_any i j n W
  have h2 := fun W (h : BookAt W B Bk G vs vl rows lines) => room_any W B Bk G vs vl rows lines h
  have hv : setErr i j n lines.length = if placeErr i j n ≠ 0 then placeErr i j n else (if 60 ≤ lines.length then 4 else 0) := rfl
  have hE := errV_pos he
  obtain ⟨x, hx⟩ : ∃ x, x = placeErr i j n := ⟨_, rfl⟩
  obtain ⟨y, hy⟩ : ∃ y : Int, y = if 60 ≤ lines.length then 4 else 0 := ⟨_, rfl⟩
  rw [← hx] at h1 hv
  rw [← hy] at h2 hv
  obtain ⟨v, hvv⟩ : ∃ v, v = setErr i j n lines.length := ⟨_, rfl⟩
  rw [← hvv] at hv hE ⊢
  have HV := Lib.hid hv
  have HE := Lib.hid hE
  rw [hE]
  have hxe : errV x = .nilIface ∨ errV x = .iface 80 (.int .i64 x) := by unfold errV; by_cases h : x = 0 <;> simp [h]
  have hye : errV y = .nilIface ∨ errV y = .iface 80 (.int .i64 y) := by unfold errV; by_cases h : y = 0 <;> simp [h]
  have HB := Lib.hid hB
  clear hB he hE hx hy hv hvv
  rcases hxe with hxe | hxe <;> rcases hye with hye | hye
  all_goals
    rw [hxe] at h1
    rw [hye] at h2
    have HX := Lib.hid hxe
    have HY := Lib.hid hye
    clear hxe hye
    go_enter Tryz.func62, Tryz.ntmps62
    go_wp2_with fail
    go_at_call 89
    refine (h1 _).mono ?_
    rintro e w1 ⟨rfl, hb1⟩
    go_wp2_with fail
    go_at_call 90
    refine (h2 _ (HB.out.call hb1)).mono ?_
    rintro e w2 ⟨rfl, rfl⟩
    go_wp2_with fail
    go_at_call 88
    refine (First_two _ x y _ (by rw [HX.out]; go_simp) (by rw [HY.out]; go_simp)).mono ?_
    rintro e w3 ⟨rfl, rfl⟩
    rw [← HV.out, HE.out]
    go_wp2_with fail
    go_ret
    exact ⟨rfl, below_trans hb1 ((Below.refl _ _).alloc (Nat.le_refl _) _)⟩

set_option maxRecDepth 100000 in
set_option maxHeartbeats 1000000 in
theorem Set_good (w : World) (B Bk G : Nat) (vs : List Value) (vl : Value) (rows : List (List Int)) (lines : List ByteArray) (hB : BookAt w B Bk G vs vl rows lines) (hBw : B ≤ w.heap.size) (hT : Tab B w) (i j n : Int) (he : setErr i j n lines.length = 0) :
    Calls Tryz.prog 62 #[.pointer (some ⟨Bk, 0, none⟩), .int .i64 i, .int .i64 j, .int .i64 n] w fun e w' => e = .returned .nilIface ∧ BookDone w w' B Bk G vs vl (putE rows i.toNat j.toNat n) (lines ++ [lineOf wordS [i, j, n]]) := by
  have hp : placeErr i j n = 0 := by
    unfold setErr at he
    by_cases h : placeErr i j n = 0
    · exact h
    · rw [if_pos h] at he; exact absurd he h
  have hL : ¬ 60 ≤ lines.length := by
    unfold setErr at he
    rw [if_neg (by omega)] at he
    intro h; rw [if_pos h] at he; cases he
  obtain ⟨⟨hi0, hi3⟩, ⟨hj0, hj3⟩, hn0, hn3⟩ := placeErr_ok hp
  have h1 := fun W => place_any i j n W
  have h2 := fun W (h : BookAt W B Bk G vs vl rows lines) => room_any W B Bk G vs vl rows lines h
  rw [hp, errV_zero] at h1
  rw [if_neg hL, errV_zero] at h2
  obtain ⟨p, rfl⟩ : ∃ p : Nat, i = p := ⟨i.toNat, by omega⟩
  obtain ⟨q, rfl⟩ : ∃ q : Nat, j = q := ⟨j.toNat, by omega⟩
  have hpn : p < 4 := by omega
  have hqn : q < 4 := by omega
  have H3 := Lib.hid (list3 (p : Int) q n ⟨⟨by omega, by omega⟩, ⟨by omega, by omega⟩, by omega, by omega⟩)
  have HB := Lib.hid hB
  have HT := Lib.hid hT
  have hL2 : lines.length ≤ 1000 := by omega
  rw [show (p : Int).toNat = p by omega, show (q : Int).toNat = q by omega]
  clear hB he hp hL hT
  go_enter Tryz.func62, Tryz.ntmps62
  go_wp2_with fail
  go_at_call 89
  refine (h1 _).mono ?_
  rintro e w1 ⟨rfl, hb1⟩
  go_wp2_with fail
  go_at_call 90
  refine (h2 _ (HB.out.call hb1)).mono ?_
  rintro e w2 ⟨rfl, rfl⟩
  go_wp2_with fail
  go_at_call 88
  refine (First_two _ 0 0 _ (by rw [errV_zero]; go_simp) (by rw [errV_zero]; go_simp)).mono ?_
  rintro e w3 ⟨rfl, hw3⟩
  have hb3 : Below w.heap.size w w3 := by rw [← hw3]; exact below_trans hb1 ((Below.refl _ _).alloc (Nat.le_refl _) _)
  rw [show errV (if (0 : Int) ≠ 0 then 0 else 0) = .nilIface from rfl]
  clear hw3 hb1
  have HB3 := Lib.hid (HB.out.call hb3)
  have q0 := HB3.out.cell0
  obtain ⟨g, rc, e1, e2, e3, e4, e5, e6, e7⟩ := HB3.out.at hpn hqn
  have hp0 : (0 : Int) ≤ p := by omega
  have hq0 : (0 : Int) ≤ q := by omega
  have hp4 : (p : Int) < 4 := by omega
  have hq4 : (q : Int) < 4 := by omega
  have HE1 := Lib.hid e1
  have HB4 := Lib.hid (e7 n (by omega) (by omega))
  have HK4 := Lib.hid (BKept.store (w := w3) (Bk := Bk) (vl := vl) hpn e1 q (.int .i64 n))
  obtain ⟨w4, hw4⟩ : ∃ w4, w4 = w3.setCell ⟨g, q, none⟩ (.int .i64 n) := ⟨_, rfl⟩
  rw [← hw4] at HB4 HK4
  have HW4 := Lib.hid hw4
  have HSZ := Lib.hid (show w3.heap.size = w4.heap.size by rw [hw4]; simp)
  have hs4 : w3.heap.size ≤ w4.heap.size := HK4.out.size
  have hB4 : B ≤ w4.heap.size := Nat.le_trans hBw (Nat.le_trans hb3.size hs4)
  have HT4 := Lib.hid ((HT.out.call (hb3.mono hBw)).call (HK4.out.below HB3.out))
  have HN := Lib.hid (fun (o : Obj) (al : Option Addr) (h : IntsAt (w4.alloc o) al 3 [(p : Int), q, n]) => Note_any (w4.alloc o) B Bk G vs vl (putE rows p q n) lines (HB4.out.call ((Below.refl _ _).alloc (Nat.le_refl _) _)) (le_alloc hB4 _) (HT4.out.call ((Below.refl _ _).alloc hB4 _)) hL2 wordS rfl [(p : Int), q, n] rfl H3.out al 3 h)
  clear e1 e7 hw4 hi0 hi3 hj0 hj3
  go_wp2_with fail
  rw [← HW4.out]
  go_at_call 91
  refine (HN.out _ _ (by rw [HSZ.out]; exact IntsAt_three _ _ _ _ _ (by go_simp) (by go_simp) (by go_simp))).mono ?_
  rintro e w5 ⟨rfl, ⟨vl', hB5, hbl⟩, hK5⟩
  have HB5 := Lib.hid hB5
  have HBL := Lib.hid hbl
  have HK5 := Lib.hid hK5
  clear hB5 hbl hK5
  go_wp2_with fail
  go_ret
  refine ⟨rfl, ⟨vl', HB5.out, fun b h => ?_⟩, ?_⟩
  · have h1 := hb3.size
    rcases HBL.out b h with h | h
    · exact Or.inl h
    · simp at h; exact Or.inr (by omega)
  · exact (((BKept.of Bk vs vl hb3).trans HK4.out (fun b h => Or.inl h)).trans (BKept.of Bk vs vl ((Below.refl _ _).alloc (Nat.le_refl _) _)) (fun b h => Or.inl h)).trans HK5.out (fun b h => Or.inl h)
end Go.Proofs.YtokneabcgmjhdaaGreatDoor
