/- Contracts of package book: New, check, room, Rows, Det. -/
import Derived.Test.YtokneabcgmjhdaaGreatDoorBookNote
import Derived.Test.YtokneabcgmjhdaaGreatDoorBase
import Derived.Test.YtokneabcgmjhdaaGreatDoorDetFn
namespace Go.Proofs.YtokneabcgmjhdaaGreatDoor
open Go.RowKit
set_option linter.unusedVariables false
set_option linter.unusedSimpArgs false

/-- what is wrong with a place and a number -/
def placeErr (i j n : Int) : Int := if (outB 0 3 i || outB 0 3 j) || outB 0 9972 n then 1 else 0
def setErr (i j n : Int) (L : Nat) : Int := if placeErr i j n ≠ 0 then placeErr i j n else if 60 ≤ L then 4 else 0
def addErr (i j n : Int) (L : Nat) : Int := if placeErr i j n ≠ 0 then placeErr i j n else if i = j then 6 else if 60 ≤ L then 4 else 0
theorem placeErr_ok {i j n : Int} (h : placeErr i j n = 0) : (0 ≤ i ∧ i ≤ 3) ∧ (0 ≤ j ∧ j ≤ 3) ∧ 0 ≤ n ∧ n ≤ 9972 := by
  unfold placeErr outB at h
  simp at h
  omega

/-- the determinant modulo 9973 -/
def G_det (rows : List (List Int)) : Int := G (-1) 4 (fn rows) % 9973
theorem IntsAt_three (w : World) (B : Nat) (x y z : Int) (h0 : w.cell? ⟨B, 0, none⟩ = some (.int .i64 x)) (h1 : w.cell? ⟨B, 1, none⟩ = some (.int .i64 y)) (h2 : w.cell? ⟨B, 2, none⟩ = some (.int .i64 z)) : IntsAt w (some ⟨B, 0, none⟩) 3 [x, y, z] := by
  refine ⟨rfl, fun i hi => ⟨B, 0, rfl, ?_⟩⟩
  match i, hi with
  | 0, _ => simpa using h0
  | 1, _ => simpa using h1
  | 2, _ => simpa using h2

theorem New_any (w : World) : Calls Tryz.prog 15 #[] w fun e w' => ∃ Bk G vs, e = .returned (.pointer (some ⟨Bk, 0, none⟩)) ∧ w.heap.size ≤ Bk ∧ BookAt w' w.heap.size Bk G vs (.slice none 0 0) (List.replicate 4 (List.replicate 4 0)) [] ∧ Below w.heap.size w w' := by
  have h0 := Grid_any 4 4
  go_enter Tryz.func15, Tryz.ntmps15
  go_wp2_with fail
  go_at_call 23
  refine (h0 _ (by omega) (by omega)).mono ?_
  rintro e w1 ⟨⟨G, vs, rfl, ho⟩, hb1⟩
  have HO := Lib.hid ho
  have HB := Lib.hid hb1
  clear ho hb1
  go_wp2_with fail
  go_ret
  exact ⟨_, G, vs, rfl, HB.out.size, BookAt.new HO.out HB.out, below_trans HB.out ((Below.refl _ _).alloc (Nat.le_refl _) _)⟩

theorem place_any (i j n : Int) (w : World) :
    Calls Tryz.prog 89 #[.int .i64 i, .int .i64 j, .int .i64 n] w fun e w' => e = .returned (errV (placeErr i j n)) ∧ Below w.heap.size w w' := by
  have h1 := fun b W (h : IntsAt W (some ⟨b, 0, none⟩) 2 [i, j]) => Any_any (some ⟨b, 0, none⟩) 2 2 [i, j] 0 3 W h (by omega)
  have h2 := fun W => Out_any' n 0 9972 W
  have hv : placeErr i j n = if (anyOut 0 3 [i, j] || outB 0 9972 n) = true then 1 else 0 := by simp [placeErr, anyOut]
  rw [hv]
  generalize anyOut 0 3 [i, j] = x at *
  generalize outB 0 9972 n = y at *
  have H1 := Lib.hid h1
  clear h1 hv
  cases x
  · cases y
    · go_enter Tryz.func89, Tryz.ntmps89
      go_wp2_with fail
      go_at_call 110
      refine (H1.out _ _ (IntsAt_two _ _ _ _ (by go_simp) (by go_simp))).mono ?_
      rintro e w1 ⟨rfl, rfl⟩
      go_wp2_with fail
      go_at_call 111
      refine (h2 _).mono ?_
      rintro e w2 ⟨rfl, rfl⟩
      go_wp2_with fail
      go_ret
      exact ⟨rfl, (Below.refl _ _).alloc (Nat.le_refl _) _⟩
    · go_enter Tryz.func89, Tryz.ntmps89
      go_wp2_with fail
      go_at_call 110
      refine (H1.out _ _ (IntsAt_two _ _ _ _ (by go_simp) (by go_simp))).mono ?_
      rintro e w1 ⟨rfl, rfl⟩
      go_wp2_with fail
      go_at_call 111
      refine (h2 _).mono ?_
      rintro e w2 ⟨rfl, rfl⟩
      go_wp2_with fail
      go_ret
      exact ⟨rfl, (Below.refl _ _).alloc (Nat.le_refl _) _⟩
  · go_enter Tryz.func89, Tryz.ntmps89
    go_wp2_with fail
    go_at_call 110
    refine (H1.out _ _ (IntsAt_two _ _ _ _ (by go_simp) (by go_simp))).mono ?_
    rintro e w1 ⟨rfl, rfl⟩
    go_wp2_with fail
    go_ret
    exact ⟨rfl, (Below.refl _ _).alloc (Nat.le_refl _) _⟩

theorem room_any (w : World) (B Bk G : Nat) (vs : List Value) (vl : Value) (rows : List (List Int)) (lines : List ByteArray) (hB : BookAt w B Bk G vs vl rows lines) :
    Calls Tryz.prog 90 #[.pointer (some ⟨Bk, 0, none⟩)] w fun e w' => e = .returned (errV (if 60 ≤ lines.length then 4 else 0)) ∧ w = w' := by
  have q1 := hB.cell1
  obtain ⟨a, cap, rfl, h1, h2, h3, h4⟩ := hB.logShape
  generalize lines.length = L at *
  clear hB h1 h2 h3 h4
  by_cases h : 60 ≤ L
  · rw [if_pos h]
    have hi : (60 : Int) ≤ (L : Int) := by omega
    clear h
    go_enter Tryz.func90, Tryz.ntmps90
    go_wp2_with fail
    go_ret
    exact ⟨rfl, rfl⟩
  · rw [if_neg h]
    have hi : (L : Int) < 60 := by omega
    clear h
    go_enter Tryz.func90, Tryz.ntmps90
    go_wp2_with fail
    go_ret
    exact ⟨rfl, rfl⟩

theorem Rows_any (w : World) (B Bk G : Nat) (vs : List Value) (vl : Value) (rows : List (List Int)) (lines : List ByteArray) (hB : BookAt w B Bk G vs vl rows lines) :
    Calls Tryz.prog 65 #[.pointer (some ⟨Bk, 0, none⟩)] w fun e w' => (∃ G', ∃ vs', e = .returned (.slice (some ⟨G', 0, none⟩) 4 4) ∧ OwnRowsV w' w.heap.size (.slice (some ⟨G', 0, none⟩) 4 4) vs' rows) ∧ Below w.heap.size w w' := by
  have q0 := hB.cell0
  have hC := NCopy_any (some ⟨G, 0, none⟩) 4 4 rows w hB.read (by omega) (by omega) (fun k hk => by rw [hB.sq.2 k hk]; omega)
  clear hB
  go_enter Tryz.func65, Tryz.ntmps65
  go_wp2_with fail
  go_at_call 94
  refine (hC).mono ?_
  rintro e w1 ⟨⟨G', vs', rfl, ho⟩, hb⟩
  have HO := Lib.hid ho
  clear ho
  go_wp2_with fail
  go_ret
  exact ⟨⟨G', vs', rfl, HO.out⟩, hb⟩

theorem Det_any (w : World) (B Bk G : Nat) (vs : List Value) (vl : Value) (rows : List (List Int)) (lines : List ByteArray) (hB : BookAt w B Bk G vs vl rows lines) :
    Calls Tryz.prog 66 #[.pointer (some ⟨Bk, 0, none⟩)] w fun e w' => e = .returned (.int .i64 (G_det rows)) ∧ Below w.heap.size w w' := by
  have q0 := hB.cell0
  have hC := DetFn_good G 0 4 4 rows w hB.read (by omega) (by omega) (by omega) hB.sq hB.ent
  rw [show Go.Proofs.YtokneabcgmjhdaaGreatDoor.G (-1) 4 (fn rows) % 9973 = G_det rows from rfl] at hC
  generalize G_det rows = d at *
  clear hB
  go_enter Tryz.func66, Tryz.ntmps66
  go_wp2_with fail
  go_at_call 95
  refine (hC).mono ?_
  rintro e w1 ⟨rfl, hb⟩
  go_wp2_with fail
  go_ret
  exact ⟨rfl, hb⟩
end Go.Proofs.YtokneabcgmjhdaaGreatDoor
