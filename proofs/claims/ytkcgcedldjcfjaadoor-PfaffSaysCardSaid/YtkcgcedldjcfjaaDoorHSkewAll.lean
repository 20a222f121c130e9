/- Contract of the reference's Skew. -/
import Derived.Test.YtkcgcedldjcfjaaDoorHSkew
import Derived.Test.YtkcgcedldjcfjaaDoorHPfaff
import Derived.BigQuiet
namespace Go.Proofs.YtkcgcedldjcfjaaDoor
open Go.RowKit
set_option linter.unusedVariables false
set_option linter.unusedSimpArgs false

/-- one place, as the reference asks it -/
def SkAt (rows : List (List Int)) (a b : Nat) : Prop := fn rows a b = -fn rows b a
theorem sk_all {n : Nat} {rows : List (List Int)} (hl : rows.length = n) (he : sqErr rows 6 (-9) 9 = 0) (h : ∀ a, a < n → ∀ b, b < n → SkAt rows a b) : skErr rows = 0 := by
  subst hl
  exact skErr_of he fun i j hi hj => by have := h j hj i hi; exact this
theorem sk_not {n : Nat} {rows : List (List Int)} (hl : rows.length = n) (he : sqErr rows 6 (-9) 9 = 0) {a b : Nat} (ha : a < n) (hb : b < n) (h : ¬ SkAt rows a b) : skErr rows = 6 := by
  subst hl
  have hn : ¬ skErr rows = 0 := by
    intro h0
    obtain ⟨_, _, _, _, h5⟩ := skErr_good h0
    exact h (h5 b a hb ha)
  unfold skErr at hn ⊢
  rw [if_neg (by omega)] at hn ⊢
  by_cases hk : skewB rows = true
  · rw [if_pos hk] at hn; omega
  · rw [if_neg hk]

set_option maxRecDepth 100000 in
set_option maxHeartbeats 1000000 in
theorem HSkew_good (a : Option Addr) (n cap : Nat) (rows : List (List Int)) (w : World) (hr : RowsAt w a n rows) (hs : Small n rows) (he : sqErr rows 6 (-9) 9 = 0) :
    Calls Tryd.prog 4 #[.slice a n cap] w fun e w' => e = .returned (.int .i64 (skErr rows)) ∧ Below w.heap.size w w' := by
  have hG := RSquare_any a n cap rows 6 (-9) 9 w hr (by omega) (by omega) hs.1 hs.2
  have hl := hr.1
  have hsq := good_sq he
  have hent := good_ent (B := 9) (by omega) he
  obtain ⟨hg1, hg2, hg3⟩ := sqErr_good he
  have hall := fun h => sk_all hl he h
  have hnot := fun (x y : Nat) hx hy h => sk_not (a := x) (b := y) hl he hx hy h
  rw [hl] at hsq hg1 hg2
  rw [he] at hG
  have HR := Lib.hid hr
  have HSQ := Lib.hid hsq
  have HEN := Lib.hid hent
  have HALL := Lib.hid hall
  have HNOT := Lib.hid hnot
  have hn6 : n ≤ 6 := by omega
  clear hr hs he hsq hent hall hnot hg2 hg3 hl
  go_enter Tryd.func4, Tryd.ntmps4
  go_wp2_with fail
  go_at_call 11
  refine (hG).mono ?_
  rintro e w1 ⟨rfl, hb⟩
  go_wp2_with fail
  go_loopg [3, 4] (2 * n + 2) (fun g t i wr => ∃ k : Nat, k ≤ n ∧ i = .int .i64 k ∧ Below w.heap.size w wr ∧ ((t = .int .i64 0 ∧ 2 * n + 1 - k < g ∧ (∀ a, a < k → ∀ b, b < n → SkAt rows a b)) ∨ (t = .int .i64 6 ∧ 0 < g ∧ ∃ a b, a < n ∧ b < n ∧ ¬ SkAt rows a b)))
  case atStart => exact ⟨0, by omega, rfl, hb, .inl ⟨rfl, by omega, fun a ha => by omega⟩⟩
  case round =>
    obtain ⟨k, hk, rfl, hbel, (⟨rfl, hg, hok⟩ | ⟨rfl, hg, x, y, hx, hy, hbad⟩)⟩ := hrel
    · have HOK := Lib.hid hok
      clear hok
      by_cases hlt : k < n
      · have hki : (k : Int) < n := by omega
        go_wp2_with fail
        go_loopg [3, 5] (2 * n + 2) (fun g t i wr => ∃ l : Nat, l ≤ n ∧ i = .int .i64 l ∧ Below w.heap.size w wr ∧ ((t = .int .i64 0 ∧ 2 * n + 1 - l < g ∧ (∀ b, b < l → SkAt rows k b)) ∨ (t = .int .i64 6 ∧ 0 < g ∧ ∃ a b, a < n ∧ b < n ∧ ¬ SkAt rows a b)))
        case atStart => exact ⟨0, by omega, rfl, hbel, .inl ⟨rfl, by omega, fun b hb => by omega⟩⟩
        case round =>
          obtain ⟨l, hl, rfl, hbel, (⟨rfl, hg, hok⟩ | ⟨rfl, hg, x, y, hx, hy, hbad⟩)⟩ := hrel
          · have HOK2 := Lib.hid hok
            clear hok
            by_cases hlt2 : l < n
            · obtain ⟨br, offr, rfl, hbr⟩ := (HR.out.call hbel).some (by omega)
              obtain ⟨g1, o1, r1, c1, x1, z1⟩ := (HR.out.call hbel).at HSQ.out hlt hlt2
              obtain ⟨g2, o2, r2, c2, x2, z2⟩ := (HR.out.call hbel).at HSQ.out hlt2 hlt
              have e1 := HEN.out k l
              have e2 := HEN.out l k
              obtain ⟨s, hs⟩ : ∃ s, s = fn rows k l := ⟨_, rfl⟩
              obtain ⟨t, ht⟩ : ∃ t, t = fn rows l k := ⟨_, rfl⟩
              have e3 : -9 ≤ t ∧ t ≤ 9 := by rw [ht]; exact e2
              rw [← hs] at x1
              rw [← ht] at x2
              have hwn : IntKind.i64.wrap (-t) = -t := IntWalk.i64_in _ (by omega)
              have HBE := Lib.hid hbel
              have hl1 : (l : Int) < n := by omega
              have hl0 : (0 : Int) ≤ l := by omega
              have hk0 : (0 : Int) ≤ k := by omega
              by_cases hst : s = -t
              · have HS := Lib.hid (show SkAt rows k l by unfold SkAt; rw [← hs, ← ht]; exact hst)
                have hsb : (s != -t) = false := by simp [hst]
                clear hs ht e1 e2 hbel hst
                go_wp2_with fail
                refine wp_region_quiet (C := Cls wr.heap.size wr) (by kernel_rfl) (by kernel_rfl) Cls.start ?_
                repeat
                  (refine wpQuiet_step (fun K hK => ?_)
                   go_simp
                   first
                     | (refine hK _ ?_; clear hK K)
                     | (apply Exists.intro
                        refine ⟨fun w' hC => ?_, hK _ ?_⟩
                        · (obtain ⟨hr, hr2⟩ := hC.rules
                           first
                             | (fail)
                             | (go_simp; done)
                             | (go_simp; rfl))
                        clear hK K))
                refine wpQuiet_nil ?_
                intro w4 hw4
                have hbe := below_trans HBE.out hw4
                go_wp2_with fail
                go_roundg (2 * n + 1 - l)
                case measure => omega
                case rel => exact ⟨l + 1, by omega, by go_num, hbe, .inl ⟨rfl, by omega, fun b hb => by
                  by_cases hbl : b = l
                  · rw [hbl]; exact HS.out
                  · exact HOK2.out b (by omega)⟩⟩
              · have HS := Lib.hid (show ¬ SkAt rows k l by unfold SkAt; rw [← hs, ← ht]; exact hst)
                have hsb : (s != -t) = true := by simp [hst]
                clear hs ht e1 e2 hbel hst
                go_wp2_with fail
                refine wp_region_quiet (C := Cls wr.heap.size wr) (by kernel_rfl) (by kernel_rfl) Cls.start ?_
                repeat
                  (refine wpQuiet_step (fun K hK => ?_)
                   go_simp
                   first
                     | (refine hK _ ?_; clear hK K)
                     | (apply Exists.intro
                        refine ⟨fun w' hC => ?_, hK _ ?_⟩
                        · (obtain ⟨hr, hr2⟩ := hC.rules
                           first
                             | (fail)
                             | (go_simp; done)
                             | (go_simp; rfl))
                        clear hK K))
                refine wpQuiet_nil ?_
                intro w4 hw4
                have hbe := below_trans HBE.out hw4
                go_wp2_with fail
                go_roundg (2 * n + 1 - l)
                case measure => omega
                case rel => exact ⟨l + 1, by omega, by go_num, hbe, .inr ⟨rfl, by omega, k, l, hlt, hlt2, HS.out⟩⟩
            · obtain rfl : l = n := by omega
              go_wp2_with fail
              go_roundg (2 * l + 1 - k)
              case measure => omega
              case rel => exact ⟨k + 1, by omega, by go_num, hbel, .inl ⟨rfl, by omega, fun a ha b hb => by
                by_cases hak : a = k
                · rw [hak]; exact HOK2.out b hb
                · exact HOK.out a (by omega) b hb⟩⟩
          · have HBAD := Lib.hid hbad
            clear hbad
            by_cases hlt2 : l < n
            · have hl1 : (l : Int) < n := by omega
              go_wp2_with fail
              go_roundg (2 * n + 1 - k)
              case measure => omega
              case rel => exact ⟨k + 1, by omega, by go_num, hbel, .inr ⟨rfl, by omega, x, y, hx, hy, HBAD.out⟩⟩
            · obtain rfl : l = n := by omega
              go_wp2_with fail
              go_roundg (2 * l + 1 - k)
              case measure => omega
              case rel => exact ⟨k + 1, by omega, by go_num, hbel, .inr ⟨rfl, by omega, x, y, hx, hy, HBAD.out⟩⟩
      · obtain rfl : k = n := by omega
        have HZ := Lib.hid (HALL.out HOK.out)
        go_wp2_with fail
        go_ret
        exact ⟨ret_int HZ.out.symm, hbel⟩
    · have HZ := Lib.hid (HNOT.out x y hx hy hbad)
      clear hbad
      by_cases hlt : k < n
      · have hki : (k : Int) < n := by omega
        go_wp2_with fail
        go_ret
        exact ⟨ret_int HZ.out.symm, hbel⟩
      · obtain rfl : k = n := by omega
        go_wp2_with fail
        go_ret
        exact ⟨ret_int HZ.out.symm, hbel⟩
theorem HSkew_any (a : Option Addr) (n cap : Nat) (rows : List (List Int)) (w : World) (hr : RowsAt w a n rows) (hs : Small n rows) :
    Calls Tryd.prog 4 #[.slice a n cap] w fun e w' => e = .returned (.int .i64 (skErr rows)) ∧ Below w.heap.size w w' := by
  by_cases he : sqErr rows 6 (-9) 9 = 0
  · exact HSkew_good a n cap rows w hr hs he
  · have := HSkew_bad a n cap rows w hr hs he
    unfold skErr
    rw [if_pos he]
    exact this
end Go.Proofs.YtkcgcedldjcfjaaDoor
