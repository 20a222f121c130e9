/- Contracts of package num's plain functions: Out, Abs, Mod. -/
import Derived.Test.YtghhccalfbgjjaaRows
import Derived.WalkKit
import Derived.Lib.Hide
import Derived.Outline
namespace Go.Proofs.Ytghhccalfbgjjaa
open Go.RowKit
set_option linter.unusedVariables false
set_option linter.unusedSimpArgs false

theorem tmod_bd (n m : Int) (h : 1 ≤ m) : -m < n.tmod m ∧ n.tmod m < m := by
  have h1 := Int.tmod_lt_of_pos n (show 0 < m by omega)
  have h2 := Int.lt_tmod_of_pos n (show 0 < m by omega)
  exact ⟨h2, h1⟩

theorem tmod_emod (n m : Int) (h : 1 ≤ m) : (n.tmod m + m) % m = n % m := by
  rw [Int.add_emod_right, Int.tmod_def, Int.sub_emod, Int.mul_emod_right, Int.sub_zero, Int.emod_emod]

theorem ret_int {k : IntKind} {a b : Int} (h : a = b) : Ending.returned (.int k a) = .returned (.int k b) := by rw [h]
theorem ret_bool {a b : Bool} (h : a = b) : Ending.returned (.bool a) = .returned (.bool b) := by rw [h]

theorem Out_any (n lo hi : Int) (w : World) :
    Calls Try.prog 21 #[.int .i64 n, .int .i64 lo, .int .i64 hi] w fun e w' => e = .returned (.bool (decide (n < lo) || decide (hi < n))) ∧ w = w' := by
  by_cases h1 : n < lo
  · go_enter Try.func21, Try.ntmps21
    go_wp2
    go_ret
    exact ⟨ret_bool (by simp [h1]), rfl⟩
  · by_cases h2 : hi < n
    · go_enter Try.func21, Try.ntmps21
      go_wp2
      go_ret
      exact ⟨ret_bool (by simp [h2]), rfl⟩
    · go_enter Try.func21, Try.ntmps21
      go_wp2
      go_ret
      exact ⟨ret_bool (by simp [h1, h2]), rfl⟩

theorem Abs_any (n : Int) (w : World) (h1 : -9223372036854775807 ≤ n) (h2 : n ≤ 9223372036854775807) :
    Calls Try.prog 15 #[.int .i64 n] w fun e w' => e = .returned (.int .i64 n.natAbs) ∧ w = w' := by
  by_cases h : n < -n
  all_goals
    go_enter Try.func15, Try.ntmps15
    go_wp2
    go_ret
    exact ⟨ret_int (by omega), rfl⟩

theorem Mod_any (n m : Int) (w : World) (h1 : -4000000000000000000 ≤ n) (h2 : n ≤ 4000000000000000000) (h3 : 1 ≤ m) (h4 : m ≤ 4000000000000000000):
    Calls Try.prog 19 #[.int .i64 n, .int .i64 m] w fun e w' => e = .returned (.int .i64 (n % m)) ∧ w = w' := by
  have hb := tmod_bd n m h3
  have HE := Lib.hid (tmod_emod n m h3)
  obtain ⟨hb1, hb2⟩ := hb
  go_enter Try.func19, Try.ntmps19
  go_wp2
  go_ret
  exact ⟨ret_int HE.out, rfl⟩

/-- the n integers xs lie at address a -/
def IntsAt (w : World) (a : Option Addr) (n : Nat) (xs : List Int) : Prop :=
  xs.length = n ∧ ∀ i, i < n → ∃ b off, a = some ⟨b, off, none⟩ ∧ w.cell? ⟨b, off + i, none⟩ = some (.int .i64 (xs.getD i 0))

def outB (lo hi x : Int) : Bool := decide (x < lo) || decide (hi < x)
def anyOut (lo hi : Int) (xs : List Int) : Bool := xs.any (outB lo hi)

theorem Out_any' (n lo hi : Int) (w : World) :
    Calls Try.prog 21 #[.int .i64 n, .int .i64 lo, .int .i64 hi] w fun e w' => e = .returned (.bool (outB lo hi n)) ∧ w = w' := Out_any n lo hi w

theorem anyOut_snoc (lo hi : Int) (xs : List Int) (k : Nat) (h : k < xs.length) (h0 : (xs.take k).any (outB lo hi) = false) (h1 : outB lo hi (xs.getD k 0) = false) :
    (xs.take (k + 1)).any (outB lo hi) = false := by
  rw [List.take_succ_eq_append_getElem h, List.any_append, h0]
  have : xs.getD k 0 = xs[k] := by simp [List.getD, h]
  rw [this] at h1
  simp [h1]

theorem anyOut_hit (lo hi : Int) (xs : List Int) (k : Nat) (h : k < xs.length) (h1 : outB lo hi (xs.getD k 0) = true) :
    anyOut lo hi xs = true := by
  have : xs.getD k 0 = xs[k] := by simp [List.getD, h]
  rw [this] at h1
  exact List.any_eq_true.2 ⟨xs[k], List.getElem_mem _, h1⟩

theorem Any_any (a : Option Addr) (n cap : Nat) (xs : List Int) (lo hi : Int) (w : World) (hx : IntsAt w a n xs) (hn : n ≤ 1000000000000000000) :
    Calls Try.prog 20 #[.slice a n cap, .int .i64 lo, .int .i64 hi] w fun e w' => e = .returned (.bool (anyOut lo hi xs)) ∧ w = w' := by
  obtain ⟨hlen, hc⟩ := hx
  have HL := Lib.hid hlen
  clear hlen
  go_enter Try.func20, Try.ntmps20
  go_wp2
  go_loop [11] (fun i => ∃ k : Nat, k ≤ n ∧ i = .int .i64 k ∧ (xs.take k).any (outB lo hi) = false) (fun i => n - (intOf i).toNat)
  case atStart => exact ⟨0, by omega, rfl, by simp⟩
  case round =>
    obtain ⟨k, hk, rfl, h0⟩ := hrel
    have H0 := Lib.hid h0
    clear h0
    by_cases hlt : k < n
    · obtain ⟨b, off, rfl, hcell⟩ := hc k hlt
      obtain ⟨x, hx⟩ : ∃ x, x = xs.getD k 0 := ⟨_, rfl⟩
      rw [← hx] at hcell
      have HX := Lib.hid hx
      clear hx hc
      by_cases ho : outB lo hi x = true
      · go_wp2_with (go_at_call 21; refine (Out_any' _ _ _ _).mono ?_; rintro e w' ⟨rfl, rfl⟩)
        go_ret
        exact ⟨ret_bool (anyOut_hit lo hi xs k (by rw [HL.out]; exact hlt) (by rw [← HX.out]; exact ho)).symm, rfl⟩
      · have ho' : outB lo hi x = false := by simpa using ho
        clear ho
        go_wp2_with (go_at_call 21; refine (Out_any' _ _ _ _).mono ?_; rintro e w' ⟨rfl, rfl⟩)
        go_round
        case rel => exact ⟨k + 1, by omega, by go_num, anyOut_snoc lo hi xs k (by rw [HL.out]; exact hlt) H0.out (by rw [← HX.out]; exact ho')⟩
        case measure => simp [intOf]; omega
    · have he : (xs.take k).any (outB lo hi) = anyOut lo hi xs := by unfold anyOut; rw [List.take_of_length_le (by rw [HL.out]; omega)]
      rw [he] at H0
      go_wp2
      go_ret
      exact ⟨ret_bool H0.out.symm, rfl⟩
end Go.Proofs.Ytghhccalfbgjjaa
