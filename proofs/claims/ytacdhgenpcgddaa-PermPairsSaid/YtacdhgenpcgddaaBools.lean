/- A slice of bools of the call's own: made, read, written; the contract of Misses; of two. -/
import Derived.Test.YtacdhgenpcgddaaMem
import Derived.Test.YtacdhgenpcgddaaHall
import Derived.Deep.LoopGhost
namespace Go.Proofs.Ytacdhgenpcgddaa
open Go.RowKit
set_option linter.unusedVariables false
set_option linter.unusedSimpArgs false

theorem info_bool : (Try.prog.info? 4).map (fun i => (i.zero, i.size, i.bytes)) = some (some (.bool false), 1, 1) := by kernel_rfl
/-- the n bools f lie in block G, which is of the call's own -/
structure BoolsAt (B : Nat) (wr : World) (G n : Nat) (f : Nat → Bool) : Prop where
  cell : ∀ j, j < n → wr.cell? ⟨G, j, none⟩ = some (.bool (f j))
  free : ∀ j, wr.frozen? ⟨G, j, none⟩ = false
  base : B ≤ G
theorem cell_other0 (w : World) (G i j : Nat) (v : Value) (h : i ≠ j) : (w.setCell ⟨G, i, none⟩ v).cell? ⟨G, j, none⟩ = w.cell? ⟨G, j, none⟩ := by
  apply World.cell?_setCell_other
  intro e
  injection e with e1 e2
  exact h e2
theorem BoolsAt.store {B G n : Nat} {wr : World} {f : Nat → Bool} (h : BoolsAt B wr G n f) {i : Nat} (hi : i < n) (x : Bool) : BoolsAt B (wr.setCell ⟨G, i, none⟩ (.bool x)) G n (fun j => if j = i then x else f j) := by
  refine ⟨fun j hj => ?_, fun j => by rw [World.frozen?_setCell]; exact h.free j, h.base⟩
  by_cases hij : i = j
  · subst hij
    rw [World.cell?_setCell_same' _ _ _ (by rw [h.cell i hj]; rfl), if_pos rfl]
  · rw [cell_other0 wr G i j _ hij, h.cell j hj, if_neg (fun e => hij e.symm)]
theorem BoolsAt.congr {B G n : Nat} {wr : World} {f f' : Nat → Bool} (h : BoolsAt B wr G n f) (e : ∀ j, j < n → f j = f' j) : BoolsAt B wr G n f' := ⟨fun j hj => by rw [← e j hj]; exact h.cell j hj, h.free, h.base⟩
theorem bools_made {w : World} {B G n : Nat} {c : Nat} (h : w.ownsRow B 4 1 (.slice (some ⟨G, 0, none⟩) n c) n (madeCells (Value.bool false).cells (n * 1)).toList) : BoolsAt B w G n (fun _ => false) := by
  have e : (madeCells (Value.bool false).cells (n * 1)).toList = List.replicate n (Value.bool false) := by
    rw [show (Value.bool false).cells = #[Value.bool false] from rfl, Nat.mul_one, toList_madeCells_one]
  rw [e] at h
  refine ⟨fun j hj => ?_, fun j => h.frozenAt j, (h.lt G rfl).1⟩
  rw [h.cellAt j (by omega)]
  simp [hj]
/-- how many are false, of the first k -/
def missTo (f : Nat → Bool) (k : Nat) : Int := (k : Int) - cnt k f
theorem miss_bd (f : Nat → Bool) (k : Nat) : 0 ≤ missTo f k ∧ missTo f k ≤ k := by
  unfold missTo
  have := cnt_le k f
  omega
theorem miss_yes {f : Nat → Bool} {k : Nat} (h : f k = true) : missTo f (k + 1) = missTo f k := by
  unfold missTo
  rw [cnt, if_pos h]; omega
theorem miss_no {f : Nat → Bool} {k : Nat} (h : f k = false) : missTo f (k + 1) = missTo f k + 1 := by
  unfold missTo
  rw [cnt, if_neg (by rw [h]; decide)]; omega

set_option maxHeartbeats 1000000 in
theorem Misses_any (G n cap : Nat) (f : Nat → Bool) (w : World) (hn : n ≤ 1000) (hc : ∀ j, j < n → w.cell? ⟨G, j, none⟩ = some (.bool (f j))) :
    Calls Try.prog 8 #[.slice (some ⟨G, 0, none⟩) n cap] w fun e w' => e = .returned (.int .i64 (missTo f n)) ∧ w = w' := by
  have HC := Lib.hid hc
  clear hc
  go_enter Try.func8, Try.ntmps8
  go_wp2_with fail
  go_loopg [3, 4] (n + 1) (fun g s i wr => ∃ k : Nat, k ≤ n ∧ n - k < g ∧ s = .int .i64 (missTo f k) ∧ i = .int .i64 k ∧ wr = w)
  case atStart => exact ⟨0, by omega, by omega, rfl, rfl, rfl⟩
  case round =>
    obtain ⟨k, hk, hg, rfl, rfl, rfl⟩ := hrel
    by_cases hlt : k < n
    · have hcell := HC.out k hlt
      have hbd := miss_bd f k
      obtain ⟨P, hP⟩ : ∃ P, P = missTo f k := ⟨_, rfl⟩
      rw [← hP] at hbd ⊢
      have HP := Lib.hid hP
      obtain ⟨b1, b2⟩ := hbd
      have hki : (k : Int) < n := by omega
      clear hP
      cases hf : f k
      · rw [hf] at hcell
        have HM := Lib.hid (miss_no hf)
        clear hf
        go_wp2_with fail
        go_roundg (n - k)
        case measure => omega
        case rel => exact ⟨k + 1, by omega, by omega, by rw [HM.out, ← HP.out], by go_num, rfl⟩
      · rw [hf] at hcell
        have HM := Lib.hid (miss_yes hf)
        clear hf
        go_wp2_with fail
        go_roundg (n - k)
        case measure => omega
        case rel => exact ⟨k + 1, by omega, by omega, by rw [HM.out, ← HP.out], by go_num, rfl⟩
    · obtain rfl : k = n := by omega
      go_wp2_with fail
      go_ret
      exact ⟨rfl, rfl⟩
theorem two_any (n : Nat) (hn : n ≤ 20) (w : World) :
    Calls Try.prog 7 #[.int .i64 n] w fun e w' => e = .returned (.int .i64 ((2 ^ n : Nat) : Int)) ∧ w = w' := by
  go_enter Try.func7, Try.ntmps7
  go_wp2_with fail
  go_loopg [3, 4] (n + 1) (fun g p i wr => ∃ k q : Nat, k ≤ n ∧ n - k < g ∧ p = .int .i64 q ∧ q = 2 ^ k ∧ i = .int .i64 k ∧ wr = w)
  case atStart => exact ⟨0, 1, by omega, by omega, rfl, rfl, rfl, rfl⟩
  case round =>
    obtain ⟨k, q, hk, hg, rfl, hq, rfl, rfl⟩ := hrel
    have hq2 : q ≤ 1048576 := by rw [hq]; exact Nat.le_trans (Nat.pow_le_pow_right (by omega) (show k ≤ 20 by omega)) (by decide)
    have HQ := Lib.hid hq
    clear hq
    by_cases hlt : k < n
    · have hki : (k : Int) < n := by omega
      go_wp2_with fail
      go_roundg (n - k)
      case measure => omega
      case rel => exact ⟨k + 1, 2 * q, by omega, by omega, by go_num, by rw [HQ.out, Nat.pow_succ]; omega, by go_num, rfl⟩
    · obtain rfl : k = n := by omega
      go_wp2_with fail
      go_ret
      exact ⟨ret_int (by rw [HQ.out]), rfl⟩
end Go.Proofs.Ytacdhgenpcgddaa
