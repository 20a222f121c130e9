/- Contract of bareiss.of. -/
import Derived.Test.YtkelnkcigbghkaaBareMem
import Derived.Test.YtkelnkcigbghkaaBareSt
import Derived.Test.YtkelnkcigbghkaaCross
import Derived.Test.YtkelnkcigbghkaaTail
import Derived.Test.YtkelnkcigbghkaaNCopy
import Derived.Deep.LoopGhost
import Derived.BigRegion
import Derived.Deep.Cut
import Derived.Deep.CutRange
import Derived.Deep.DeepCutAuto
import Derived.RegionTactic
namespace Go.Proofs.Ytkelnkcigbghkaa
open Go.RowKit
set_option linter.unusedVariables false
set_option linter.unusedSimpArgs false

set_option maxRecDepth 100000 in
set_option maxHeartbeats 2000000 in
theorem Bareiss_of (n : Nat) (a : Option Addr) (cap : Nat) (rows : List (List Int)) (w : World) (h0 : 0 < n) (hn : n ≤ 5) (hcap : n ≤ cap) (hsq : Sq n rows) (hent : Ent 9 rows) (hr : RowsAt w a n rows) :
    Calls Try.prog 14 #[.slice a n cap] w fun e w' => e = .returned (.int .i64 (G (-1) n (fn rows))) ∧ Below w.heap.size w w' := by
  obtain ⟨D, hD⟩ : ∃ D, D = G (-1) n (fn rows) := ⟨_, rfl⟩
  have hDb : -7085880 ≤ D ∧ D ≤ 7085880 := by
    have h1 := G_bd (-1) (Or.inr rfl) (B := 9) n (M := fn rows) hent
    have h2 := bnd9' hn
    omega
  obtain ⟨hD1, hD2⟩ := hDb
  have hst := BSt.start (n := n) hent
  rw [← hD] at hst ⊢
  have HR := Lib.hid hr
  have HS := Lib.hid hsq
  have HST := Lib.hid hst
  clear hr hsq hst hent hD
  go_enter Try.func14, Try.ntmps14
  go_wp2_with fail
  go_at_call 19
  refine (NCopy_any a n cap rows _ (HR.out.call ((Below.refl _ w).alloc (Nat.le_refl _) _)) (by omega) hcap (fun k hk => by rw [HS.out.2 k hk]; omega)).mono ?_
  rintro e w1 ⟨⟨Gk, vs, rfl, hcp⟩, hb1⟩
  have hz1 := hb1.size
  simp only [World.size_alloc] at hz1 hcp
  have hbx : w1.cell? ⟨w.heap.size, 0, none⟩ = some (.slice a n cap) := by
    rw [hb1.cell (p := ⟨w.heap.size, 0, none⟩) (by simp)]
    go_simp
  have hbf : w1.frozen? ⟨w.heap.size, 0, none⟩ = false := by
    rw [hb1.frozen (p := ⟨w.heap.size, 0, none⟩) (by simp)]
    go_simp
  have hB1 : Below w.heap.size w w1 := ((Below.refl _ w).alloc (Nat.le_refl _) _).trans (hb1.mono (by simp))
  have HCP := Lib.hid hcp
  clear hcp hb1
  go_wp2_with fail
  have hm0 : BMem w ((w1.setCell ⟨w.heap.size, 0, none⟩ (.slice (some ⟨Gk, 0, none⟩) n n)).alloc (.cells #[.int .i64 1] 3)) (w.heap.size + 1) w1.heap.size Gk n vs rows 1 := by
    have o1 := HCP.out.storeLow (g := w.heap.size) (by omega) 0 (.slice (some ⟨Gk, 0, none⟩) n n)
    refine ⟨o1.call ((Below.refl _ _).alloc (Nat.le_refl _) _), HCP.out.bound, ?_, ?_, ?_, ?_, by omega, by omega, HS.out⟩
    · rw [((Below.refl _ (w1.setCell ⟨w.heap.size, 0, none⟩ (.slice (some ⟨Gk, 0, none⟩) n n))).alloc (Nat.le_refl _) _).cell (p := ⟨w.heap.size, 0, none⟩) (by simp; omega)]
      exact World.cell?_setCell_same' _ _ _ (by rw [hbx]; rfl)
    · go_simp
    · go_simp
    · exact (hB1.setCell (p := ⟨w.heap.size, 0, none⟩) (Nat.le_refl _) _).alloc (by simp; omega) _
  have HM0 := Lib.hid hm0
  generalize ((w1.setCell ⟨w.heap.size, 0, none⟩ (.slice (some ⟨Gk, 0, none⟩) n n)).alloc (.cells #[.int .i64 1] 3)) = W0 at *
  generalize w1.heap.size = Bl at *
  clear hm0 hbx hbf hB1 HCP
  have hn0 : (0 : Int) < n := by omega
  go_loopg [3, 6] (n + 1) (fun g s i wr => ∃ (c : Nat) (sg : Int) (M : Nat → Nat → Int) (T : List (List Int)) (vs : List Value), c < n ∧ n - c < g ∧ s = .int .i64 sg ∧ i = .int .i64 c ∧ BMem w wr (w.heap.size + 1) Bl Gk n vs T (G (-1) c M) ∧ BSt D n c sg M T)
  case atStart => exact ⟨0, 1, fn rows, rows, vs, h0, by omega, rfl, rfl, HM0.out, HST.out⟩
  case round =>
    obtain ⟨c, sg, M, T, vs, hc, hg, rfl, rfl, hM, hS⟩ := hrel
    have HM := Lib.hid hM
    have HS1 := Lib.hid hS
    have hsg := hS.sgn
    have hsg1 : -1 ≤ sg := by rcases hsg with h | h <;> omega
    have hsg2 : sg ≤ 1 := by rcases hsg with h | h <;> omega
    have hbox := hM.box
    clear HST HM0 hM hS hsg
    by_cases hlt : c + 1 < n
    · have hlti : (c : Int) + 1 < n := by omega
      go_wp2_with fail
      obtain ⟨wo, rfl⟩ : ∃ wo : World, wo = wr := ⟨_, rfl⟩
      go_loopg [7] (n + 1) (fun g i wr => ∃ k : Nat, c ≤ k ∧ k ≤ n ∧ n - k < g ∧ i = .int .i64 k ∧ (∀ q, c ≤ q → q < k → fn T q c = 0) ∧ wr = wo)
      case atStart => exact ⟨c, Nat.le_refl _, by omega, by omega, rfl, fun q h1 h2 => by omega, rfl⟩
      case round =>
        obtain ⟨k, hck, hkn, hgk, rfl, hz, rfl⟩ := hrel
        have HZ := Lib.hid hz
        clear hz
        by_cases hk : k < n
        · obtain ⟨gk, rk, hhk, hvk, hfk, hek, _⟩ := HM.out.at hk hc
          have hk0 : (0 : Int) ≤ k := by omega
          have hc0 : (0 : Int) ≤ c := by omega
          have hk1 : (k : Int) < n := by omega
          have hc1 : (c : Int) < n := by omega
          obtain ⟨x, hx⟩ : ∃ x, x = fn T k c := ⟨_, rfl⟩
          rw [← hx] at hek
          have HX := Lib.hid hx
          have HVK := Lib.hid hvk
          have HFK := Lib.hid hfk
          clear hx hvk hfk
          by_cases hx0 : x = 0
          · have hxb : (x == 0) = true := by simp [hx0]
            have HX0 := Lib.hid hx0
            clear hx0
            go_wp2_with fail
            go_roundg (n - k)
            case measure => omega
            case rel => exact ⟨k + 1, by omega, by omega, by omega, by go_num, fun q h1 h2 => by
              by_cases hq : q < k
              · exact HZ.out q h1 hq
              · obtain rfl : q = k := by omega
                rw [← HX.out, HX0.out], rfl⟩
          · have hxb : (x == 0) = false := by simp [hx0]
            have hkb : ((k : Int) == (n : Int)) = false := by simp; omega
            have HX0 := Lib.hid hx0
            clear hx0
            go_upto_if 43 with (fail)
            go_cut [3] from 13 to 93 (fun s W2 => ∃ (sg2 : Int) (M2 : Nat → Nat → Int) (T2 : List (List Int)) (vs2 : List Value), s = .int .i64 sg2 ∧ BMem w W2 (w.heap.size + 1) Bl Gk n vs2 T2 (G (-1) c M2) ∧ BSt D n c sg2 M2 T2 ∧ fn T2 c c ≠ 0)
            case first =>
              by_cases hkc : k = c
              · subst hkc
                go_wp2_with fail
                go_meet
                case rel => exact ⟨sg, M, T, vs, rfl, HM.out, HS1.out, by rw [← HX.out]; exact HX0.out⟩
              · have hkcb : ((k : Int) != (c : Int)) = true := by simp; omega
                have hck2 : ¬ c = k := fun h => hkc h.symm
                obtain ⟨gc, rc, hhc, hvc, hfc, hec, _⟩ := HM.out.at hc hc
                have hfk2 := (HM.out.head hk).2
                have hfc2 := (HM.out.head hc).2
                have hm2 := HM.out.swap hk hc
                rw [HVK.out, hvc] at hm2
                have hm2 : BMem w (((wr.setCell ⟨Gk, k, none⟩ (.slice (some ⟨gc, 0, none⟩) n rc)).setCell ⟨Gk, c, none⟩ (.slice (some ⟨gk, 0, none⟩) n rk)).drew) (w.heap.size + 1) Bl Gk n (swapVs vs k c) (swapL T k c) (G (-1) c M) := hm2.call Cls.start
                have hs2 := HS1.out.swap HM.out.sq hc (by omega) hk
                have hp2 : fn (swapL T k c) c c ≠ 0 := by
                  rw [fn_swapL HM.out.sq hk hc]
                  have : sw k c c = k := by unfold sw; rw [if_neg hck2, if_pos rfl]
                  rw [this, ← HX.out]
                  exact HX0.out
                rw [← lead_swap c M k c (by omega) (Nat.le_refl _)] at hm2
                have HM2 := Lib.hid hm2
                have HS2 := Lib.hid hs2
                have HP2 := Lib.hid hp2
                clear hvc hm2 hs2 hp2 hec
                go_wp2_with fail
                go_region
                go_wp2_with fail
                go_meet
                case rel => exact ⟨-sg, _, _, _, rfl, HM2.out, HS2.out, HP2.out⟩
            case rest =>
              obtain ⟨sg2, M2, T2, vs2, rfl, hm2, hs2, hp2⟩ := hcut
              have hbox2 := hm2.box
              go_wp2_with fail
              clear hbox2
              have HM3 := Lib.hid hm2
              have HS3 := Lib.hid hs2
              have HP3 := Lib.hid hp2
              have HCN := Lib.hid (show c + 1 < n by omega)
              clear hm2 hs2 hp2 hbox HX HX0 HM HS1 hsg1 hsg2 hhk hek HVK HFK
              go_loopg [8] (n + 1) (fun g i wr => ∃ (p : Nat) (T3 : List (List Int)), c + 1 ≤ p ∧ p ≤ n ∧ n - p < g ∧ i = .int .i64 p ∧ BMem w wr (w.heap.size + 1) Bl Gk n vs2 T3 (G (-1) c M2) ∧ BIn n c M2 T3 p (c + 1))
              case atStart => exact ⟨c + 1, T2, Nat.le_refl _, by omega, by omega, by go_num, HM3.out, BIn.start HS3.out⟩
              case round =>
                obtain ⟨p, T3, hp1, hp2, hgp, rfl, hm3, hi3⟩ := hrel
                have HM4 := Lib.hid hm3
                have HI4 := Lib.hid hi3
                have hbox3 := hm3.box
                clear hm3 hi3
                by_cases hpn : p < n
                · have hpn' : (p : Int) < n := by omega
                  go_wp2_with fail
                  go_loopg [9] (n + 1) (fun g j wr => ∃ (q : Nat) (T3 : List (List Int)), c + 1 ≤ q ∧ q ≤ n ∧ n - q < g ∧ j = .int .i64 q ∧ BMem w wr (w.heap.size + 1) Bl Gk n vs2 T3 (G (-1) c M2) ∧ BIn n c M2 T3 p q)
                  case atStart => exact ⟨c + 1, T3, Nat.le_refl _, by omega, by omega, by go_num, HM4.out, HI4.out⟩
                  case round =>
                    obtain ⟨q, T4, hq1, hq2, hgq, rfl, hm4, hi4⟩ := hrel
                    have HM5 := Lib.hid hm4
                    have HI5 := Lib.hid hi4
                    have hbox4 := hm4.box
                    clear hm4 hi4 hbox3
                    by_cases hqn : q < n
                    · have hcn : c < n := by have := HCN.out; omega
                      obtain ⟨gp, rp, fhp, fvp, ffp, fep, _⟩ := HM5.out.at hpn hqn
                      obtain ⟨gp', rp', fhp', fvp', _, fep', _⟩ := HM5.out.at hpn hcn
                      obtain ⟨rfl, rfl⟩ : gp = gp' ∧ rp = rp' := by have := fvp.symm.trans fvp'; simp at this; exact this
                      obtain ⟨gc, rc, fhc, fvc, _, fec, _⟩ := HM5.out.at hcn hcn
                      obtain ⟨gc', rc', fhc', fvc', _, fec', _⟩ := HM5.out.at hcn hqn
                      obtain ⟨rfl, rfl⟩ : gc = gc' ∧ rc = rc' := by have := fvc.symm.trans fvc'; simp at this; exact this
                      rw [HI5.out.here (by omega) (by omega) hpn hqn] at fep
                      rw [HI5.out.col hcn (by omega) hpn] at fep'
                      rw [HI5.out.row hcn (Nat.le_refl _) hcn] at fec
                      rw [HI5.out.row hcn (by omega) hqn] at fec'
                      have hstep := B_step c M2 p q HS3.out.lead
                      have b1 := B_bd (c := c) (by omega) HS3.out.bd p q
                      have b2 := B_bd (c := c) (by omega) HS3.out.bd c c
                      have b3 := B_bd (c := c) (by omega) HS3.out.bd p c
                      have b4 := B_bd (c := c) (by omega) HS3.out.bd c q
                      have b5 := B_bd (c := c + 1) (by have := HCN.out; omega) HS3.out.bd p q
                      have hX := fun (W : World) (hC : Cls wr.heap.size wr W) => Cross_any c p q n w.heap.size Bl Gk gp gc rp rc _ _ _ _ _ _ W hcn hpn hqn
                        (by rw [hC.rules.1 _ _ (World.block_lt_of_cell? _ _ hbox4)]; exact hbox4) (by rw [hC.rules.1 _ _ (World.block_lt_of_cell? _ _ HM5.out.last)]; exact HM5.out.last)
                        (by rw [hC.rules.1 _ _ (World.block_lt_of_cell? _ _ fhp)]; exact fhp) (by rw [hC.rules.1 _ _ (World.block_lt_of_cell? _ _ fhc)]; exact fhc)
                        (by rw [hC.rules.1 _ _ (World.block_lt_of_cell? _ _ fep)]; exact fep) (by rw [hC.rules.1 _ _ (World.block_lt_of_cell? _ _ fec)]; exact fec)
                        (by rw [hC.rules.1 _ _ (World.block_lt_of_cell? _ _ fep')]; exact fep') (by rw [hC.rules.1 _ _ (World.block_lt_of_cell? _ _ fec')]; exact fec')
                        HS3.out.lead hstep (by omega) (by omega) (by omega) (by omega) (by omega) (by omega) (by omega) (by omega) (by omega) (by omega)
                      have HXX := Lib.hid hX
                      have hz1 : w.heap.size < wr.heap.size := World.block_lt_of_cell? _ _ hbox4
                      have hz2 : Gk < wr.heap.size := World.block_lt_of_cell? _ _ fhp
                      have hz3 : gp < wr.heap.size := World.block_lt_of_cell? _ _ fep
                      have hp0 : (0 : Int) ≤ p := by omega
                      have hq0 : (0 : Int) ≤ q := by omega
                      have hp3 : (p : Int) < n := by omega
                      have hq3 : (q : Int) < n := by omega
                      have HST5 := Lib.hid (fun (W : World) (hC : Below wr.heap.size wr W) => (HM5.out.call hC).store hpn hqn fvp (B (c + 1) M2 p q))
                      have HI6 := Lib.hid (HI5.out.step HM5.out.sq (by omega) (by omega) hpn hqn)
                      clear hX hstep b1 b2 b3 b4 b5 fec fec' fep' fhc fhc' fvc fvc' fvp fvp' fhp'
                      go_wp2_with fail
                      refine wp_region_quiet_tail (C := Cls wr.heap.size wr) 11 (by kernel_rfl) (by kernel_rfl) Cls.start ?_
                      simp only [List.take_succ_cons, List.take_zero, List.drop_succ_cons, List.drop_zero]
                      repeat
                        (refine wpQuiet_step (fun K hK => ?_)
                         go_simp
                         first
                           | (refine hK _ ?_; clear hK K)
                           | (apply Exists.intro
                              refine ⟨fun w' hC => ?_, hK _ ?_⟩
                              · (obtain ⟨hr, hr2⟩ := hC.rules
                                 first
                                   | (go_at_call 20; exact Cls.call hC (Nat.le_refl _) (HXX.out _ hC))
                                   | (go_simp; done)
                                   | (go_simp; rfl))
                              clear hK K))
                      refine wpQuiet_nil ?_
                      intro W5 hW5
                      obtain ⟨hcc, hff⟩ := hW5.rules
                      go_wp2_with fail
                      go_roundg (n - q)
                      case measure => omega
                      case rel => exact ⟨q + 1, _, by omega, by omega, by omega, by go_num, HST5.out _ hW5, HI6.out⟩
                    · obtain rfl : q = n := by omega
                      go_wp2_with fail
                      go_roundg (q - p)
                      case measure => omega
                      case rel => exact ⟨p + 1, T4, by omega, by omega, by omega, by go_num, HM5.out, HI5.out.next⟩
                · obtain rfl : p = n := by omega
                  have hcn : c < p := by have := HCN.out; omega
                  have hcn' : (c : Int) < p := by omega
                  have hcn0 : (0 : Int) ≤ c := by omega
                  obtain ⟨gc, rc, fhc, fvc, _, fec, _⟩ := HM4.out.at hcn hcn
                  have hlv := HI4.out.row hcn (Nat.le_refl _) hcn
                  have hpv : B c M2 c c ≠ 0 := by rw [← HS3.out.val c c (Nat.le_refl _) (Nat.le_refl _) hcn hcn]; exact HP3.out
                  rw [hlv, B_lead] at fec
                  have hlast := HM4.out.last
                  have hlf := HM4.out.free
                  have HSN := Lib.hid (HS3.out.next HCN.out hpv HI4.out)
                  have HML := Lib.hid (HM4.out.setLast (G (-1) (c + 1) M2))
                  clear hlv hpv fvc
                  go_wp2_with fail
                  go_roundg (p - c)
                  case measure => omega
                  case rel => exact ⟨c + 1, _, M2, T3, vs2, HCN.out, by omega, rfl, by go_num, HML.out, HSN.out⟩
        · obtain rfl : k = n := by omega
          have hD0 : D = 0 := HS1.out.stop hc (fun q h1 h2 => HZ.out q h1 h2)
          subst hD0
          go_wp2_with fail
          go_ret
          exact ⟨rfl, HM.out.bel⟩
    · obtain rfl : n = c + 1 := by omega
      obtain ⟨gc2, rc2, fhc, fvc, _, fec, _⟩ := HM.out.at (show c < c + 1 by omega) (show c < c + 1 by omega)
      have hfin := HS1.out.fin rfl
      have hz1 : w.heap.size < wr.heap.size := World.block_lt_of_cell? _ _ hbox
      have hz2 : Gk < wr.heap.size := World.block_lt_of_cell? _ _ fhc
      have hz3 : gc2 < wr.heap.size := World.block_lt_of_cell? _ _ fec
      have hc0 : (0 : Int) ≤ c := by omega
      have hwr : IntKind.i64.wrap (sg * fn T c c) = D := by rw [hfin]; exact IntWalk.i64_in _ (by omega)
      have hwc : IntKind.i64.wrap (c : Int) = c := IntWalk.i64_in _ (by omega)
      have hc1 : (c : Int) < (c : Int) + 1 := by omega
      clear fvc hfin
      go_wp2_with fail
      refine wp_region_quiet (C := Cls wr.heap.size wr) (by kernel_rfl) (by kernel_rfl) Cls.start ?_
      repeat
        (refine wpQuiet_step (fun K hK => ?_)
         go_simp
         first
           | (refine hK _ ?_; clear hK K)
           | (apply Exists.intro
              refine ⟨fun w' hC => ?_, hK _ ?_⟩
              · (obtain ⟨hr, hr2⟩ := hC.rules
                 first
                   | (fail)
                   | (go_simp; done)
                   | (go_simp; rfl))
              clear hK K))
      refine wpQuiet_nil ?_
      intro W2 hW2
      go_wp2_with fail
      go_ret
      exact ⟨rfl, HM.out.bel.trans (hW2.mono HM.out.bel.size)⟩
end Go.Proofs.Ytkelnkcigbghkaa
