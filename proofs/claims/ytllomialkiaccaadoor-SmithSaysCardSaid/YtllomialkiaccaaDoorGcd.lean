/- Contract of num.Gcd. -/
import Derived.Test.YtllomialkiaccaaDoorAbs
import Derived.Test.YtllomialkiaccaaDoorSmMath
import Derived.Deep.LoopGhost
import Derived.BigQuiet
import Derived.RegionTactic
namespace Go.Proofs.YtllomialkiaccaaDoor
open Go.RowKit
set_option linter.unusedVariables false
set_option linter.unusedSimpArgs false

theorem gcd_step (x y : Nat) (h : y ≠ 0) : Int.gcd (x : Int) (y : Int) = Int.gcd (y : Int) ((x % y : Nat) : Int) := by
  simp only [Int.gcd, Int.natAbs_natCast]
  rw [Nat.gcd_comm, Nat.gcd_rec, Nat.gcd_comm]
set_option maxHeartbeats 1000000 in
theorem Gcd_any (a b : Int) (w : World) (h1 : a.natAbs ≤ 1000000000000) (h2 : b.natAbs ≤ 1000000000000) :
    Calls Tryd.prog 24 #[.int .i64 a, .int .i64 b] w fun e w' => e = .returned (.int .i64 (gcdI a b)) ∧ Below w.heap.size w w' := by
  have hA := fun W => Abs_any a W (by omega) (by omega)
  have hB := fun W => Abs_any b W (by omega) (by omega)
  obtain ⟨x, hx⟩ : ∃ x, x = a.natAbs := ⟨_, rfl⟩
  obtain ⟨y, hy⟩ : ∃ y, y = b.natAbs := ⟨_, rfl⟩
  have hg : gcdI a b = (Int.gcd (x : Int) (y : Int) : Int) := by unfold gcdI; rw [hx, hy]; simp [Int.gcd]
  rw [hg]
  rw [← hx] at hA h1
  rw [← hy] at hB h2
  clear hx hy hg
  obtain ⟨G, hG⟩ : ∃ G : Nat, G = Int.gcd (x : Int) (y : Int) := ⟨_, rfl⟩
  have HG0 := Lib.hid hG
  rw [← hG]
  clear hG
  go_enter Tryd.func24, Tryd.ntmps24
  go_wp2_with fail
  go_at_call 19
  refine (hA _).mono ?_
  rintro e w1 ⟨rfl, rfl⟩
  go_wp2_with fail
  go_at_call 19
  refine (hB _).mono ?_
  rintro e w1 ⟨rfl, rfl⟩
  go_wp2_with fail
  go_loopg [0, 1] (y + 1) (fun g s t wr => ∃ p q : Nat, p ≤ 1000000000000 ∧ q ≤ 1000000000000 ∧ q < g ∧ s = .int .i64 p ∧ t = .int .i64 q ∧ RowKit.Hid (G = Int.gcd (p : Int) (q : Int)) ∧ Below w.heap.size w wr)
  case atStart => exact ⟨x, y, h1, h2, by omega, rfl, rfl, HG0, Below.refl _ _⟩
  case round =>
    obtain ⟨p, q, hp, hq, hgk, rfl, rfl, HG, hb⟩ := hrel
    by_cases h0 : q = 0
    · subst h0
      have e : (G : Int) = p := by rw [HG.out]; simp [Int.gcd]
      have HE := Lib.hid e
      clear HG e
      go_wp2_with fail
      go_ret
      exact ⟨by rw [HE.out]; rfl, hb⟩
    · have hq0 : ((q : Int) == 0) = false := by simp; omega
      have hq1 : (q : Int) ≠ 0 := by omega
      have hr : (p : Int).tmod q = ((p % q : Nat) : Int) := by
        rw [Int.tmod_eq_emod_of_nonneg (by omega)]; exact (Int.natCast_emod p q).symm
      have hw : IntKind.i64.wrap ((p % q : Nat) : Int) = ((p % q : Nat) : Int) := by
        have := Nat.mod_lt p (show 0 < q by omega)
        exact IntWalk.i64_in _ (by omega)
      have hz := gcd_step p q h0
      have HZ := Lib.hid hz
      have hlt := Nat.mod_lt p (show 0 < q by omega)
      clear hz
      go_wp2_with fail
      go_region
      go_wp2_with fail
      go_roundg q
      case measure => omega
      case rel => exact ⟨q, p % q, hq, by omega, hlt, rfl, by simp, Lib.hid (by rw [HG.out, HZ.out]), hb.trans ((Cls.start (N := wr.heap.size) (W := wr)).mono hb.size)⟩
end Go.Proofs.YtllomialkiaccaaDoor
