/- Contract of hermite.form. -/
import Derived.Test.YtijlhdgagaehaaaDoorHerMem
import Derived.Test.YtijlhdgagaehaaaDoorHerEu
import Derived.Test.YtijlhdgagaehaaaDoorNCopy
import Derived.Test.YtijlhdgagaehaaaDoorMod
import Derived.Test.YtijlhdgagaehaaaDoorTail
import Derived.Deep.LoopGhost
import Derived.BigRegion
import Derived.Deep.Cut
import Derived.Deep.CutRange
import Derived.Deep.DeepCutAuto
import Derived.RegionTactic
namespace Go.Proofs.YtijlhdgagaehaaaDoor
open Go.RowKit
set_option linter.unusedVariables false
set_option linter.unusedSimpArgs false

theorem Down_any (a b : Int) (w : World) (h1 : -1000000000000000 ≤ a) (h2 : a ≤ 1000000000000000) (h3 : 1 ≤ b) (h4 : b ≤ 1000000000000000) :
    Calls Tryd.prog 37 #[.int .i64 a, .int .i64 b] w fun e w' => e = .returned (.int .i64 (a / b)) ∧ w = w' := by
  have hm1 := Int.emod_nonneg a (show b ≠ 0 by omega)
  have hm2 := Int.emod_lt_of_pos a (show 0 < b by omega)
  have hd : (a - a % b).tdiv b = a / b := by
    have := Int.emod_add_mul_ediv a b
    have e : a - a % b = b * (a / b) := by omega
    rw [e]
    exact Int.mul_tdiv_cancel_left _ (by omega)
  obtain ⟨f1, f2, f3, f4⟩ := floor_abs (x := a) (m := b) (by omega)
  obtain ⟨r, hr⟩ : ∃ r, r = a % b := ⟨_, rfl⟩
  obtain ⟨q, hq⟩ : ∃ q, q = a / b := ⟨_, rfl⟩
  have hM := Mod_any a b w (by omega) (by omega) h3 (by omega)
  rw [← hr] at hm1 hm2 hd hM
  rw [← hq] at hd f1 ⊢
  have hw1 : IntKind.i64.wrap (a - r) = a - r := IntWalk.i64_in _ (by omega)
  have hw2 : IntKind.i64.wrap q = q := IntWalk.i64_in _ (by omega)
  have hb0 : b ≠ 0 := by omega
  have hbe : (b == 0) = false := by simp [hb0]
  clear f2 f3 f4 hr hq
  go_enter Tryd.func37, Tryd.ntmps37
  go_wp2_with fail
  go_at_call 43
  refine (hM).mono ?_
  rintro e w1 ⟨rfl, rfl⟩
  go_wp2_with fail
  go_ret
  exact ⟨rfl, rfl⟩
theorem natAbs_tdiv_le (y x : Int) : (y.tdiv x).natAbs ≤ y.natAbs := by
  rw [Int.natAbs_tdiv]
  exact Nat.div_le_self _ _
set_option maxRecDepth 100000 in
set_option maxHeartbeats 2000000 in
theorem Form_of (n : Nat) (a : Option Addr) (cap : Nat) (rows : List (List Int)) (w : World) (h0 : 0 < n) (hn : n ≤ 3) (hcap : n ≤ cap) (hsq : Sq n rows) (hent : ∀ a b, a < n → b < n → (fn rows a b).natAbs ≤ 20) (hdet : G (-1) n (fn rows) ≠ 0) (hr : RowsAt w a n rows) :
    Calls Tryd.prog 22 #[.slice a n cap] w fun e w' => (∃ G' vs T, e = .returned (.slice (some ⟨G', 0, none⟩) n n) ∧ OwnRowsV w' (w.heap.size + 1) (.slice (some ⟨G', 0, none⟩) n n) vs T ∧ Sq n T ∧ FormOf n (fn rows) (fn T)) ∧ Below w.heap.size w w' := by
  have HR := Lib.hid hr
  have HS := Lib.hid hsq
  have HD := Lib.hid hdet
  have HST := Lib.hid (HStart.first (n := n) hent)
  clear hr hsq hent hdet
  go_enter Tryd.func22, Tryd.ntmps22
  go_wp2_with fail
  go_at_call 35
  refine (NCopy_any a n cap rows _ (HR.out.call ((Below.refl _ w).alloc (Nat.le_refl _) _)) (by omega) hcap (fun k hk => by rw [HS.out.2 k hk]; omega)).mono ?_
  rintro e w1 ⟨⟨Gk, vs, rfl, hcp⟩, hb1⟩
  have hz1 := hb1.size
  simp only [World.size_alloc] at hz1 hcp
  have hbx : w1.cell? ⟨w.heap.size, 0, none⟩ = some (.slice a n cap) := by
    rw [hb1.cell (p := ⟨w.heap.size, 0, none⟩) (by simp)]
    go_simp
  have hbf : w1.frozen? ⟨w.heap.size, 0, none⟩ = false := by
    rw [hb1.frozen (p := ⟨w.heap.size, 0, none⟩) (by simp)]
    go_simp
  have hB1 : Below w.heap.size w w1 := ((Below.refl _ w).alloc (Nat.le_refl _) _).trans (hb1.mono (by simp))
  have HCP := Lib.hid hcp
  clear hcp hb1
  go_wp2_with fail
  have hm0 : HMem w (w1.setCell ⟨w.heap.size, 0, none⟩ (.slice (some ⟨Gk, 0, none⟩) n n)) (w.heap.size + 1) Gk n vs rows := by
    refine ⟨HCP.out.storeLow (g := w.heap.size) (by omega) 0 (.slice (some ⟨Gk, 0, none⟩) n n), ?_, hB1.setCell (p := ⟨w.heap.size, 0, none⟩) (Nat.le_refl _) _, by omega, HS.out⟩
    exact World.cell?_setCell_same' _ _ _ (by rw [hbx]; rfl)
  have HM0 := Lib.hid hm0
  have hbox := hm0.box
  generalize (w1.setCell ⟨w.heap.size, 0, none⟩ (.slice (some ⟨Gk, 0, none⟩) n n)) = W0 at *
  clear hm0 hbx hbf hB1 HCP
  have hn0 : (0 : Int) < n := by omega
  go_loopg [12] (n + 1) (fun g i wr => ∃ (c : Nat) (vs : List Value) (T : List (List Int)), c ≤ n ∧ n - c < g ∧ i = .int .i64 c ∧ HMem w wr (w.heap.size + 1) Gk n vs T ∧ HStart n c (fn rows) (fn T))
  case atStart => exact ⟨0, vs, rows, by omega, by omega, rfl, HM0.out, HST.out⟩
  case round =>
    obtain ⟨c, vs, T, hc, hg, rfl, hM, hS⟩ := hrel
    have HM := Lib.hid hM
    have HS1 := Lib.hid hS
    have hbox := hM.box
    clear HST HM0 hM hS
    by_cases hlt : c < n
    · have hlti : (c : Int) < n := by omega
      have hc0 : (0 : Int) ≤ c := by omega
      have HC0 := Lib.hid (HS1.out.clear hn hlt)
      go_wp2_with fail
      go_loopg [5] (n + 1) (fun g i wr => ∃ (p : Nat) (vs : List Value) (T : List (List Int)), c + 1 ≤ p ∧ p ≤ n ∧ n - p < g ∧ i = .int .i64 p ∧ HMem w wr (w.heap.size + 1) Gk n vs T ∧ EuClear n c p (fn rows) (fn T))
      case atStart => exact ⟨c + 1, vs, T, by omega, by omega, by omega, by go_num, HM.out, HC0.out⟩
      case round =>
        obtain ⟨p, vs, T, hp1, hp2, hgp, rfl, hM, hS⟩ := hrel
        clear HM HS1 HC0 hbox
        have HM := Lib.hid hM
        have HS1 := Lib.hid hS
        have hbox := hM.box
        clear hM hS
        by_cases hpn : p < n
        · have hpni : (p : Int) < n := by omega
          have hp0 : (0 : Int) ≤ p := by omega
          have HE0 := Lib.hid (HS1.out.steps hn (by omega) hpn)
          go_wp2_with fail
          go_loopg [] (leadB c + 1) (fun g wr => ∃ (vs : List Value) (T : List (List Int)), (fn T p c).natAbs < g ∧ HMem w wr (w.heap.size + 1) Gk n vs T ∧ EuSt n c p (fn rows) (fn T))
          case atStart => exact ⟨vs, T, Nat.lt_succ_of_le (HS1.out.lead p (by omega) hpn), HM.out, HE0.out⟩
          case round =>
            obtain ⟨vs, T, hgx, hM, hS⟩ := hrel
            clear HM HS1 HE0 hbox
            have HM := Lib.hid hM
            have HS1 := Lib.hid hS
            have hbox := hM.box
            clear hM hS
            obtain ⟨gp, rp, fhp, fvp, _, fep, _⟩ := HM.out.at hpn hlt
            obtain ⟨x, hx⟩ : ∃ x, x = fn T p c := ⟨_, rfl⟩
            rw [← hx] at fep hgx
            have HX := Lib.hid hx
            clear hx
            by_cases hx0 : x = 0
            · have hxb : (x != 0) = false := by simp [hx0]
              have HX0 := Lib.hid hx0
              clear hx0
              go_wp2_with fail
              go_roundg (n - p)
              case measure => omega
              case rel => exact ⟨p + 1, vs, T, by omega, by omega, by omega, by go_num, HM.out, HS1.out.over (by rw [← HX.out]; exact HX0.out)⟩
            · have hxb : (x != 0) = true := by simp [hx0]
              have hxe : (x == 0) = false := by simp [hx0]
              obtain ⟨gc, rc, fhc, fvc, _, fec, _⟩ := HM.out.at hlt hlt
              obtain ⟨y, hy⟩ : ∃ y, y = fn T c c := ⟨_, rfl⟩
              rw [← hy] at fec
              obtain ⟨n1, n2, n3⟩ := HS1.out.next hn (by omega) hpn (by rw [← HX.out]; exact hx0)
              rw [← hy, ← HX.out] at n1 n2 n3
              have yb := HS1.out.wide c c hlt hlt
              rw [← hy] at yb
              have wb := wide_big c (p + 1)
              have qb := natAbs_tdiv_le y x
              obtain ⟨q, hq⟩ : ∃ q, q = y.tdiv x := ⟨_, rfl⟩
              rw [← hq] at n1 n2 n3 qb
              have hqd : y.tdiv x = q := hq.symm
              have hwq : IntKind.i64.wrap q = q := IntWalk.i64_in _ (by omega)
              have HN := Lib.hid (show _ ∧ _ ∧ _ from ⟨n1, n2, n3⟩)
              have HL := Lib.hid (fun W (hb : Below wr.heap.size wr W) => Less_any c p n (w.heap.size + 1) Gk q vs T w W hlt hpn (by omega) (HM.out.call hb) (fun b hb => by have := n3 b hb; omega) (fun b hb => by have := HS1.out.wide c b hlt hb; omega))
              have z1 := World.block_lt_of_cell? _ _ hbox
              have z2 := World.block_lt_of_cell? _ _ fhp
              have z3 := World.block_lt_of_cell? _ _ fep
              have z4 := World.block_lt_of_cell? _ _ fec
              dsimp only at z1 z2 z3 z4
              have HVP := Lib.hid fvp
              have HVC := Lib.hid fvc
              clear hy n1 n2 n3 yb wb qb hq fvp fvc
              go_wp2_with fail
              refine wp_region_quiet_tail (C := Cls wr.heap.size wr) 18 (by kernel_rfl) (by kernel_rfl) Cls.start ?_
              simp only [List.take_succ_cons, List.take_zero, List.drop_succ_cons, List.drop_zero]
              repeat
                (refine wpQuiet_step (fun K hK => ?_)
                 go_simp
                 first
                   | (refine hK _ ?_; clear hK K)
                   | (apply Exists.intro
                      refine ⟨fun w' hC => ?_, hK _ ?_⟩
                      · (obtain ⟨hr, hr2⟩ := hC.rules
                         first
                           | (fail)
                           | (go_simp; done)
                           | (go_simp; rfl))
                      clear hK K))
              refine wpQuiet_nil ?_
              intro W5 hW5
              obtain ⟨hcc, hff⟩ := hW5.rules
              go_wp2_with fail
              go_at_call 36
              refine (HL.out _ hW5).mono ?_
              rintro e w6 ⟨⟨v, rfl⟩, T', hm6, he6⟩
              have hm7 := hm6.swap hlt hpn
              obtain ⟨fhc6, ffc6⟩ := hm6.head hlt
              obtain ⟨fhp6, ffp6⟩ := hm6.head hpn
              have hbox6 := hm6.box
              have hgk0 : w.heap.size < Gk := by have := hm6.own.base; omega
              rw [HVP.out, HVC.out] at hm7
              rw [HVC.out] at fhc6
              rw [HVP.out] at fhp6
              have HM7 := Lib.hid (hm7.call Cls.start)
              have HE7 := Lib.hid (show ∀ a b, a < n → b < n → fn (swapL T' c p) a b = swapR (setRow (fn T) c (fun j => fn T c j - q * fn T p j)) c p a b from fun a b ha hb => by
                rw [fn_swapL hm6.sq hlt hpn, he6 _ b (sw_lt hlt hpn ha) hb]; rfl)
              clear hm6 he6 hm7 hcc hff fhp fhc fec fep hbox hW5
              go_wp2_with fail
              go_region
              go_wp2_with fail
              go_roundg x.natAbs
              case measure => exact hgx
              case rel => exact ⟨_, _, by rw [HE7.out p c hpn hlt]; exact HN.out.2.1, HM7.out, HN.out.1.congr hlt hpn HE7.out⟩
        · obtain rfl : p = n := by omega
          obtain ⟨gc, rc, fhc, fvc, _, fec, _⟩ := HM.out.at hlt hlt
          obtain ⟨y, hy⟩ : ∃ y, y = fn T c c := ⟨_, rfl⟩
          rw [← hy] at fec
          have HY := Lib.hid hy
          clear hy fvc
          go_upto_if 71 with (fail)
          go_cut [] (fun W2 => ∃ (vs : List Value) (T : List (List Int)), HMem w W2 (w.heap.size + 1) Gk p vs T ∧ ColSt p c 0 (fn rows) (fn T))
          case first =>
            by_cases hy0 : y < 0
            · have HL := Lib.hid (fun W (hb : Below wr.heap.size wr W) => Less_any c c p (w.heap.size + 1) Gk 2 vs T w W hlt hlt (by omega) (HM.out.call hb) (fun b hb => by have := HS1.out.wide c b hlt hb; have := wide_big c p; omega) (fun b hb => by have := HS1.out.wide c b hlt hb; have := wide_big c p; omega))
              have HY0 := Lib.hid hy0
              go_wp2_with fail
              go_at_call 36
              refine (HL.out _ (Below.refl _ _)).mono ?_
              rintro e w6 ⟨⟨v, rfl⟩, T', hm6, he6⟩
              have HM6 := Lib.hid hm6
              have HE6 := Lib.hid he6
              clear hm6 he6
              go_wp2_with fail
              go_meet
              case rel => exact ⟨vs, T', HM6.out, (HS1.out.neg hlt (by rw [← HY.out]; exact HY0.out)).congr hlt (by omega) (fun a b ha hb => by
                rw [HE6.out a b ha hb]
                unfold setRow
                by_cases h : a = c
                · rw [if_pos h, if_pos h]; show fn T c b - 2 * fn T c b = -1 * fn T c b; omega
                · rw [if_neg h, if_neg h])⟩
            · have hne := HS1.out.ne hlt HD.out
              rw [← HY.out] at hne
              have HP := Lib.hid (show 0 < y by omega)
              go_wp2_with fail
              go_meet
              case rel => exact ⟨vs, T, HM.out, HS1.out.pos hlt (by rw [← HY.out]; exact HP.out)⟩
          case rest =>
            obtain ⟨vs, T, hM, hS⟩ := hcut
            clear HM HS1 hbox fhc fec HY
            have HM := Lib.hid hM
            have HS1 := Lib.hid hS
            have hbox := hM.box
            clear hM hS
            have hc1 : (c : Int) < p := by omega
            go_wp2_with fail
            go_loopg [77] (c + 1) (fun g i wr => ∃ (k : Nat) (vs : List Value) (T : List (List Int)), k ≤ c ∧ c - k < g ∧ i = .int .i64 k ∧ HMem w wr (w.heap.size + 1) Gk p vs T ∧ ColSt p c k (fn rows) (fn T))
            case atStart => exact ⟨0, vs, T, by omega, by omega, rfl, HM.out, HS1.out⟩
            case round =>
              obtain ⟨k, vs, T, hk, hgk, rfl, hM, hS⟩ := hrel
              clear HM HS1 hbox
              have HM := Lib.hid hM
              have HS1 := Lib.hid hS
              have hbox := hM.box
              clear hM hS
              by_cases hkc : k < c
              · have hkn : k < p := by omega
                obtain ⟨gk, rk, fhk, fvk, _, fek, _⟩ := HM.out.at hkn hlt
                obtain ⟨gc, rc, fhc, fvc, _, fec, _⟩ := HM.out.at hlt hlt
                obtain ⟨n1, n2⟩ := HS1.out.next hn hlt hkc
                have yb := HS1.out.here c c (Nat.le_refl c) hlt hlt
                have xb := HS1.out.old k c (Nat.le_refl k) hkc hlt
                have yp := HS1.out.mid
                have wb := wide_big c p
                have lb := lead_big c
                have ob := fun b hb => HS1.out.old k b (Nat.le_refl k) hkc hb
                obtain ⟨y, hy⟩ : ∃ y, y = fn T c c := ⟨_, rfl⟩
                obtain ⟨x, hx⟩ : ∃ x, x = fn T k c := ⟨_, rfl⟩
                rw [← hy] at fec yb yp
                rw [← hx] at fek xb
                rw [← hy, ← hx] at n1 n2
                obtain ⟨q, hq⟩ : ∃ q, q = x / y := ⟨_, rfl⟩
                have HDN := Lib.hid (fun W => Down_any x y W (by omega) (by omega) (by omega) (by omega))
                rw [← hq] at n1 n2 HDN
                have HN := Lib.hid n1
                have HL := Lib.hid (fun W (hb : Below wr.heap.size wr W) => Less_any k c p (w.heap.size + 1) Gk q vs T w W hkn hlt (by omega) (HM.out.call hb) n2 (fun b hb => by have := ob b hb; omega))
                have hk0 : (0 : Int) ≤ k := by omega
                have hk1 : (k : Int) < p := by omega
                have z1 := World.block_lt_of_cell? _ _ hbox
                have z2 := World.block_lt_of_cell? _ _ fhk
                have z3 := World.block_lt_of_cell? _ _ fek
                have z4 := World.block_lt_of_cell? _ _ fec
                dsimp only at z1 z2 z3 z4
                clear hy hx n1 n2 yb xb wb lb ob hq fvk fvc
                go_wp2_with fail
                refine wp_region_quiet_tail (C := Cls wr.heap.size wr) 18 (by kernel_rfl) (by kernel_rfl) Cls.start ?_
                simp only [List.take_succ_cons, List.take_zero, List.drop_succ_cons, List.drop_zero]
                repeat
                  (refine wpQuiet_step (fun K hK => ?_)
                   go_simp
                   first
                     | (refine hK _ ?_; clear hK K)
                     | (apply Exists.intro
                        refine ⟨fun w' hC => ?_, hK _ ?_⟩
                        · (obtain ⟨hr, hr2⟩ := hC.rules
                           first
                             | (go_at_call 37; exact Cls.callSame hC (HDN.out _))
                             | (go_simp; done)
                             | (go_simp; rfl))
                        clear hK K))
                refine wpQuiet_nil ?_
                intro W5 hW5
                obtain ⟨hcc, hff⟩ := hW5.rules
                go_wp2_with fail
                go_at_call 36
                refine (HL.out _ hW5).mono ?_
                rintro e w6 ⟨⟨v, rfl⟩, T', hm6, he6⟩
                have HM6 := Lib.hid hm6
                have HE6 := Lib.hid he6
                clear hm6 he6 hcc hff
                go_wp2_with fail
                go_roundg (c - k)
                case measure => omega
                case rel => exact ⟨k + 1, vs, T', by omega, by omega, by go_num, HM6.out, HN.out.congr hlt (by omega) HE6.out⟩
              · obtain rfl : k = c := by omega
                go_wp2_with fail
                go_roundg (p - k)
                case measure => omega
                case rel => exact ⟨k + 1, vs, T, by omega, by omega, by go_num, HM.out, HS1.out.over hn hlt⟩
    · obtain rfl : c = n := by omega
      go_wp2_with fail
      go_ret
      exact ⟨⟨Gk, vs, T, rfl, HM.out.own, HM.out.sq, HS1.out.form⟩, HM.out.bel⟩
end Go.Proofs.YtijlhdgagaehaaaDoor
