/- Contract of pfaff.Of; the closed fact on Pfaffians. -/
import Derived.Test.YtkcgcedldjcfjaaDoorPfOf
import Derived.Test.YtkcgcedldjcfjaaDoorPfCheck
namespace Go.Proofs.YtkcgcedldjcfjaaDoor
open Go.RowKit
set_option linter.unusedVariables false
set_option linter.unusedSimpArgs false

def pbnd (B : Int) : Nat → Int
  | 0 => 1
  | 1 => 0
  | n + 2 => (n + 1 : Nat) * (B * pbnd B n)
theorem pfN_bd {B : Int} (n : Nat) : ∀ {m : List (List Int)}, Ent B m → -(pbnd B n) ≤ pfN n m ∧ pfN n m ≤ pbnd B n := by
  induction n using Nat.strongRecOn with
  | _ n ih =>
    match n, ih with
    | 0, _ => intro m _; simp [pfN, pbnd]
    | 1, _ => intro m _; simp [pfN, pbnd]
    | n + 2, ih =>
      intro m h
      rw [pfN, pbnd]
      refine sumTo_bd fun j hj => ?_
      have h1 := h 0 (j + 1)
      have h2 := ih n (by omega) ((h.cut (j + 1) (j + 1)).cut 0 0)
      have h3 : -B ≤ sgn j * (m.getD 0 []).getD (j + 1) 0 ∧ sgn j * (m.getD 0 []).getD (j + 1) 0 ≤ B := by
        unfold sgn
        split <;> omega
      exact bd_mul h3.1 h3.2 h2.1 h2.2
theorem pfN_odd (n : Nat) : ∀ (m : List (List Int)), n % 2 = 1 → pfN n m = 0 := by
  induction n using Nat.strongRecOn with
  | _ n ih =>
    match n, ih with
    | 0, _ => intro m h; omega
    | 1, _ => intro m _; rfl
    | n + 2, ih =>
      intro m h
      rw [pfN]
      have : sumTo (fun j => sgn j * (m.getD 0 []).getD (j + 1) 0 * pfN n (cut (cut m (j + 1) (j + 1)) 0 0)) (n + 1) = sumTo (fun _ => 0) (n + 1) :=
        sumTo_congr fun j hj => by rw [ih n (by omega) _ (by omega), Int.mul_zero]
      rw [this, sumTo_zero]

/-- what is known of a matrix without fault -/
theorem skErr_good {rows : List (List Int)} (h : skErr rows = 0) : Sq rows.length rows ∧ Ent 9 rows ∧ rows.length ≤ 6 ∧ 0 < rows.length ∧ Skew rows.length (fn rows) := by
  unfold skErr at h
  by_cases h1 : sqErr rows 6 (-9) 9 ≠ 0
  · rw [if_pos h1] at h; exact absurd h h1
  · rw [if_neg h1] at h
    have h2 : sqErr rows 6 (-9) 9 = 0 := by omega
    obtain ⟨g1, g2, g3⟩ := sqErr_good h2
    refine ⟨good_sq h2, good_ent (by omega) h2, by omega, by omega, fun i j hi hj => ?_⟩
    by_cases h3 : skewB rows = true
    · unfold skewB at h3
      have := List.all_eq_true.1 (List.all_eq_true.1 h3 i (List.mem_range.2 hi)) j (List.mem_range.2 hj)
      simpa [fn] using this
    · rw [if_neg h3] at h; omega
theorem skErr_of {rows : List (List Int)} (h : sqErr rows 6 (-9) 9 = 0) (hs : Skew rows.length (fn rows)) : skErr rows = 0 := by
  unfold skErr
  rw [if_neg (by omega), if_pos]
  unfold skewB
  refine List.all_eq_true.2 fun i hi => List.all_eq_true.2 fun j hj => ?_
  have := hs i j (List.mem_range.1 hi) (List.mem_range.1 hj)
  simpa [fn] using this

theorem PfCheck_any (a : Option Addr) (n cap : Nat) (rows : List (List Int)) (w : World) (hr : RowsAt w a n rows) (hs : Small n rows) :
    Calls Tryd.prog 6 #[.slice a n cap] w fun e w' => e = .returned (errV (skErr rows)) ∧ Below w.heap.size w w' := by
  by_cases he : sqErr rows 6 (-9) 9 = 0
  · exact PfCheck_good a n cap rows w hr hs he
  · have := PfCheck_bad a n cap rows w hr hs he
    unfold skErr
    rw [if_pos he]
    exact this

/-- what pfaff.Of answers -/
def pfV (rows : List (List Int)) : Int := if skErr rows = 0 then pfN rows.length rows else 0
theorem pfV_bd (rows : List (List Int)) : -10935 ≤ pfV rows ∧ pfV rows ≤ 10935 := by
  unfold pfV
  split
  · rename_i h
    obtain ⟨h1, h2, h3, h4, h5⟩ := skErr_good h
    have := pfN_bd rows.length h2
    have e : pbnd 9 rows.length ≤ 10935 := by
      match rows.length, h3 with
      | 0, _ => decide
      | 1, _ => decide
      | 2, _ => decide
      | 3, _ => decide
      | 4, _ => decide
      | 5, _ => decide
      | 6, _ => decide
    omega
  · omega

theorem PfFn_any (a : Option Addr) (n cap : Nat) (rows : List (List Int)) (w : World) (hr : RowsAt w a n rows) (hcap : n ≤ cap) (hs : Small n rows) :
    Calls Tryd.prog 9 #[.slice a n cap] w fun e w' => e = .returned (.tuple #[.int .i64 (pfV rows), errV (skErr rows)]) ∧ Below w.heap.size w w' := by
  have hG := PfCheck_any a n cap rows w hr hs
  have hbd := pfV_bd rows
  by_cases he : skErr rows = 0
  · obtain ⟨h1, h2, h3, h4, h5⟩ := skErr_good he
    have hl := hr.1
    rw [hl] at h1 h3 h4 h5
    have hv : wrap64 (pfN n rows) = pfV rows := by
      unfold pfV at hbd ⊢
      rw [if_pos he, hl] at hbd ⊢
      exact wrap_in (by omega) (by omega)
    have hO := fun w (h : RowsAt w a n rows) => Pf_of_any n a cap rows w (by omega) hcap h1 h
    rw [hv] at hO
    rw [he, show errV 0 = .nilIface from rfl] at hG ⊢
    have HR := Lib.hid hr
    by_cases hodd : n % 2 = 1
    · have hv0 : pfV rows = 0 := by unfold pfV; rw [if_pos he, hl, pfN_odd n rows hodd]
      rw [hv0]
      have hob : ((n : Int) % 2 == 1) = true := by simp; omega
      have hn0 : (0 : Int) ≤ n := by omega
      clear hs h1 h2 h5 hv he hr hl hbd hv0 hO hodd
      go_enter Tryd.func9, Tryd.ntmps9
      go_wp2_with fail
      go_at_call 6
      refine (hG).mono ?_
      rintro e w1 ⟨rfl, hb⟩
      go_wp2_with fail
      go_ret2
      exact ⟨rfl, hb⟩
    · have hob : ((n : Int) % 2 == 1) = false := by simp; omega
      have hn0 : (0 : Int) ≤ n := by omega
      clear hs h1 h2 h5 hv he hr hl hbd hodd
      generalize pfV rows = v at *
      go_enter Tryd.func9, Tryd.ntmps9
      go_wp2_with fail
      go_at_call 6
      refine (hG).mono ?_
      rintro e w1 ⟨rfl, hb⟩
      go_wp2_with fail
      go_at_call 18
      refine (hO _ (HR.out.call hb)).mono ?_
      rintro e w2 ⟨rfl, hb2⟩
      go_wp2_with fail
      go_ret2
      exact ⟨rfl, below_trans hb hb2⟩
  · have hv : pfV rows = 0 := by unfold pfV; rw [if_neg he]
    have hE : errV (skErr rows) = .iface 34 (.int .i64 (skErr rows)) := by unfold errV; rw [if_neg he]
    rw [hv]
    rw [hE] at hG ⊢
    generalize skErr rows = e at *
    clear hs hE he hv hbd hr
    go_enter Tryd.func9, Tryd.ntmps9
    go_wp2_with fail
    go_at_call 6
    refine (hG).mono ?_
    rintro e w1 ⟨rfl, hb⟩
    go_wp2_with fail
    go_ret2
    exact ⟨rfl, hb⟩
end Go.Proofs.YtkcgcedldjcfjaaDoor
