/- Contracts of det.of, det.Check, det.Of. -/
import Derived.Test.YtokneabcgmjhdaaGreatDoorDetEx
import Derived.Test.YtokneabcgmjhdaaGreatDoorBase
import Derived.Test.YtokneabcgmjhdaaGreatDoorGrounds
import Derived.Deep.LoopGhost
import Derived.BigRegion
import Derived.BigQuiet
import Derived.StillTailTactics
import Derived.Deep.DeepCutAuto
import Derived.RegionTactic
namespace Go.Proofs.YtokneabcgmjhdaaGreatDoor
open Go.RowKit
set_option linter.unusedVariables false
set_option linter.unusedSimpArgs false

theorem nat_of {x : Int} (h : 0 ≤ x) : ∃ y : Nat, x = y := ⟨x.toNat, by omega⟩

set_option maxRecDepth 100000 in
set_option maxHeartbeats 4000000 in
theorem Det_of (n : Nat) (a : Option Addr) (cap : Nat) (rows : List (List Int)) (w : World) (h0 : 0 < n) (hn : n ≤ 5) (hcap : n ≤ cap) (hsq : Sq n rows) (hent : ∀ i j, i < n → j < n → 0 ≤ fn rows i j ∧ fn rows i j < 9973) (hr : RowsAt w a n rows) :
    Calls Tryz.prog 116 #[.slice a n cap] w fun e w' => e = .returned (.int .i64 (G (-1) n (fn rows) % 9973)) ∧ Below w.heap.size w w' := by
  obtain ⟨D, hD⟩ : ∃ D, D = G (-1) n (fn rows) := ⟨_, rfl⟩
  have hst := DSt.start hent
  rw [← hD] at hst ⊢
  obtain ⟨R, hR⟩ : ∃ R, R = D % 9973 := ⟨_, rfl⟩
  rw [← hR]
  have HRR := Lib.hid hR
  have HR := Lib.hid hr
  have HS := Lib.hid hsq
  have HST := Lib.hid hst
  clear hr hsq hst hent hD hR
  go_enter Tryz.func116, Tryz.ntmps116
  go_wp2_with fail
  go_at_call 94
  refine (NCopy_any a n cap rows _ (HR.out.call ((Below.refl _ w).alloc (Nat.le_refl _) _)) (by omega) hcap (fun k hk => by rw [HS.out.2 k hk]; omega)).mono ?_
  rintro e w1 ⟨⟨Gk, vs, rfl, hcp⟩, hb1⟩
  have hz1 := hb1.size
  simp only [World.size_alloc] at hz1 hcp
  have hbx : w1.cell? ⟨w.heap.size, 0, none⟩ = some (.slice a n cap) := by
    rw [hb1.cell (p := ⟨w.heap.size, 0, none⟩) (by simp)]
    go_simp
  have hbf : w1.frozen? ⟨w.heap.size, 0, none⟩ = false := by
    rw [hb1.frozen (p := ⟨w.heap.size, 0, none⟩) (by simp)]
    go_simp
  have hB1 : Below w.heap.size w w1 := ((Below.refl _ w).alloc (Nat.le_refl _) _).trans (hb1.mono (by simp))
  have HCP := Lib.hid hcp
  clear hcp hb1
  go_upto_region 4 with (fail)
  have hm0 : BMem w ((w1.setCell ⟨w.heap.size, 0, none⟩ (.slice (some ⟨Gk, 0, none⟩) n n)).alloc (.cells #[.int .i64 1] 3)) (w.heap.size + 1) w1.heap.size Gk n vs rows 1 := by
    have o1 := HCP.out.storeLow (g := w.heap.size) (by omega) 0 (.slice (some ⟨Gk, 0, none⟩) n n)
    refine ⟨o1.call ((Below.refl _ _).alloc (Nat.le_refl _) _), HCP.out.bound, ?_, ?_, ?_, ?_, by omega, by omega, HS.out⟩
    · rw [((Below.refl _ (w1.setCell ⟨w.heap.size, 0, none⟩ (.slice (some ⟨Gk, 0, none⟩) n n))).alloc (Nat.le_refl _) _).cell (p := ⟨w.heap.size, 0, none⟩) (by simp; omega)]
      exact World.cell?_setCell_same' _ _ _ (by rw [hbx]; rfl)
    · go_simp
    · go_simp
    · exact (hB1.setCell (p := ⟨w.heap.size, 0, none⟩) (Nat.le_refl _) _).alloc (by simp; omega) _
  have HM0 := Lib.hid hm0
  generalize ((w1.setCell ⟨w.heap.size, 0, none⟩ (.slice (some ⟨Gk, 0, none⟩) n n)).alloc (.cells #[.int .i64 1] 3)) = W0 at *
  generalize w1.heap.size = Bl at *
  clear hm0 hbx hbf hB1 HCP
  have hn0 : (0 : Int) < n := by omega
  have hbox0 := HM0.out.box
  go_wp2_with fail
  clear hbox0
  go_loopg [16] (n + 1) (fun g i wr => ∃ (c : Nat) (out : Int) (T : List (List Int)) (vs : List Value), c ≤ n ∧ n - c < g ∧ i = .int .i64 c ∧ BMem w wr (w.heap.size + 1) Bl Gk n vs T out ∧ DSt D n c out T)
  case atStart => exact ⟨0, 1, rows, vs, by omega, by omega, rfl, HM0.out, HST.out⟩
  case round =>
    obtain ⟨c, out, T, vs, hc, hg, rfl, hM, hS⟩ := hrel
    have HM := Lib.hid hM
    have HS1 := Lib.hid hS
    have hbox := hM.box
    clear HST HM0 hM hS
    by_cases hlt : c < n
    · have hc0 : (0 : Int) ≤ c := by omega
      have hc1 : (c : Int) < n := by omega
      go_wp2_with fail
      obtain ⟨wo, rfl⟩ : ∃ wo : World, wo = wr := ⟨_, rfl⟩
      go_loopg [6] (n + 1) (fun g i wr => ∃ k : Nat, c ≤ k ∧ k ≤ n ∧ n - k < g ∧ i = .int .i64 k ∧ (∀ q, c ≤ q → q < k → fn T q c = 0) ∧ wr = wo)
      case atStart => exact ⟨c, Nat.le_refl _, by omega, by omega, rfl, fun q h1 h2 => by omega, rfl⟩
      case round =>
        obtain ⟨k, hck, hkn, hgk, rfl, hz, rfl⟩ := hrel
        have HZ := Lib.hid hz
        clear hz
        by_cases hk : k < n
        · obtain ⟨gk, rk, hhk, hvk, hfk, hek, _⟩ := HM.out.at hk hlt
          have hk0 : (0 : Int) ≤ k := by omega
          have hk1 : (k : Int) < n := by omega
          obtain ⟨x, hx⟩ : ∃ x, x = fn T k c := ⟨_, rfl⟩
          rw [← hx] at hek
          have HX := Lib.hid hx
          clear hx hvk hfk
          by_cases hx0 : x = 0
          · have hxb : (x == 0) = true := by simp [hx0]
            have HX0 := Lib.hid hx0
            clear hx0
            go_wp2_with fail
            go_roundg (n - k)
            case measure => omega
            case rel => exact ⟨k + 1, by omega, by omega, by omega, by go_num, fun q h1 h2 => by
              by_cases hq : q < k
              · exact HZ.out q h1 hq
              · obtain rfl : q = k := by omega
                rw [← HX.out, HX0.out], rfl⟩
          · have hxb : (x == 0) = false := by simp [hx0]
            have hkb : ((k : Int) == (n : Int)) = false := by simp; omega
            have HX0 := Lib.hid hx0
            have hEx : Calls Tryz.prog 130 #[.int .i64 c, .int .i64 k, .pointer (some ⟨w.heap.size, 0, none⟩), .pointer (some ⟨Bl, 0, none⟩)] wr fun e w' => (∃ v, e = .returned v) ∧ ∃ out2 T2 vs2, BMem w w' (w.heap.size + 1) Bl Gk n vs2 T2 out2 ∧ DSt D n c out2 T2 ∧ fn T2 c c ≠ 0 := by
              by_cases hkc : k = c
              · subst hkc
                refine (Exch_same k n (w.heap.size + 1) Bl Gk vs T out w wr hk HM.out).mono ?_
                rintro e w' ⟨hv, rfl⟩
                exact ⟨hv, out, T, vs, HM.out, HS1.out, by rw [← HX.out]; exact HX0.out⟩
              · refine (Exch_other c k n (w.heap.size + 1) Bl Gk vs T out w wr hlt hk (fun h => hkc h.symm) HS1.out.o0 HS1.out.o1 HM.out).mono ?_
                rintro e w' ⟨hv, hm⟩
                refine ⟨hv, _, _, _, hm, HS1.out.swap HM.out.sq hlt (by omega) hk, ?_⟩
                rw [fn_swapL HM.out.sq hlt hk]
                have : sw c k c = k := by unfold sw; rw [if_pos rfl]
                rw [this, ← HX.out]
                exact HX0.out
            have HEX := Lib.hid hEx
            clear hx0 hEx
            go_wp2_with fail
            go_at_call 130
            refine HEX.out.mono ?_
            rintro e w2 ⟨⟨v, rfl⟩, out2, T2, vs2, hm2, hs2, hp2⟩
            obtain ⟨gc, rc, hhc, hvc, _, hec, _⟩ := hm2.at hlt hlt
            have hrg := hs2.rng c c hlt hlt
            obtain ⟨pn, hpn⟩ := nat_of hrg.1
            rw [hpn] at hec hrg hp2
            have hpn0 : 0 < pn := by omega
            have hpn1 : pn < 9973 := by omega
            have ho0 := hs2.o0
            have ho1 := hs2.o1
            have hbox2 := hm2.box
            have hlast2 := hm2.last
            have hfree2 := hm2.free
            have hob := bd_mul (a := out2) (b := (pn : Int)) (B := 10000) (C := 10000) (by omega) (by omega) (by omega) (by omega)
            obtain ⟨hob1, hob2⟩ := hob
            have hopos : 0 ≤ out2 * (pn : Int) := Int.mul_nonneg ho0 (by omega)
            obtain ⟨z, hz⟩ : ∃ z, z = out2 * (pn : Int) := ⟨_, rfl⟩
            have hwz : IntKind.i64.wrap (out2 * (pn : Int)) = z := by rw [← hz]; exact IntWalk.i64_in _ (by omega)
            rw [← hz] at hob1 hob2 hopos
            have hzm : z.tmod 9973 = z % 9973 := Int.tmod_eq_emod_of_nonneg hopos
            have hwm : IntKind.i64.wrap (z % 9973) = z % 9973 := IntWalk.i64_in _ (by omega)
            have hm3 := hm2.setLast (z % 9973)
            have hm3 : BMem w ((w2.setCell ⟨Bl, 0, none⟩ (.int .i64 (z % 9973))).drew) (w.heap.size + 1) Bl Gk n vs2 T2 (z % 9973) := hm3.call Cls.start
            have HM3 := Lib.hid hm3
            have HE3 := Lib.hid (EIn.start hs2)
            have HPN := Lib.hid hpn
            have HZZ := Lib.hid (show z % 9973 = (out2 * (pn : Int)) % 9973 by rw [hz])
            have hO := fun W => Over_any pn W hpn1
            have HPI := Lib.hid (show 0 < pn ∧ pn < 9973 from ⟨hpn0, hpn1⟩)
            have hbox3 := hm3.box
            obtain ⟨gc3, rc3, hhc3, hvc3, _, hec3, _⟩ := hm3.at hlt hlt
            rw [hpn] at hec3
            obtain ⟨o, hoo⟩ : ∃ o, o = invP pn := ⟨_, rfl⟩
            rw [← hoo] at hO
            have HOO := Lib.hid hoo
            have hol : o < 9973 := by rw [hoo]; exact invP_lt pn
            clear hm2 hs2 hp2 hvc hm3 hz hpn hrg hob1 hob2 hopos hpn0 hpn1 HEX HX HX0 HM HS1 HZ hhk hek hbox ho0 ho1 hoo hvc3 hkb hxb
            go_upto_region 13 with (fail)
            go_still_tail 10, (by kernel_rfl)
            have hn2 : 0 < n := by omega
            go_upto_region 14 with (fail)
            clear hhc hec hbox2 hlast2 hfree2 hwz hzm hwm
            generalize (w2.setCell ⟨Bl, 0, none⟩ (.int .i64 (z % 9973))).drew = W3 at *
            generalize z % 9973 = z2 at *
            go_wp2_with fail
            go_at_call 131
            refine (hO _).mono ?_
            rintro e w4 ⟨rfl, rfl⟩
            clear hhc3 hec3 hbox3 hO
            go_wp2_with fail
            go_loopg [8] (n + 1) (fun g i wr => ∃ (p : Nat) (T3 : List (List Int)), c + 1 ≤ p ∧ p ≤ n ∧ n - p < g ∧ i = .int .i64 p ∧ BMem w wr (w.heap.size + 1) Bl Gk n vs2 T3 z2 ∧ EIn D n c p out2 (pn : Int) T3)
            case atStart => exact ⟨c + 1, T2, Nat.le_refl _, by omega, by omega, by go_num, HM3.out, by rw [← HPN.out]; exact HE3.out⟩
            case round =>
              obtain ⟨p, T3, hp1, hp2, hgp, rfl, hm3, he3⟩ := hrel
              have HM4 := Lib.hid hm3
              have HE4 := Lib.hid he3
              have hbox3 := hm3.box
              clear hm3 he3
              by_cases hpn : p < n
              · have hpn' : (p : Int) < n := by omega
                have hpn0 : (0 : Int) ≤ p := by omega
                obtain ⟨gp, rp, fhp, fvp, ffp, fep, _⟩ := HM4.out.at hpn hlt
                obtain ⟨xn, hxn⟩ := nat_of (HE4.out.rng p c hpn hlt).1
                have hxr := (HE4.out.rng p c hpn hlt).2
                rw [hxn] at fep hxr
                have hxo : xn * o ≤ 10000 * 10000 := Nat.mul_le_mul (by omega) (by omega)
                have hxo' : (xn : Int) * o = ((xn * o : Nat) : Int) := by simp
                have HBY := Lib.hid (by_ok (x := xn) HPI.out.1 HPI.out.2)
                rw [← HOO.out] at HBY
                obtain ⟨y, hy⟩ : ∃ y, y = xn * o := ⟨_, rfl⟩
                rw [← hy] at hxo hxo' HBY
                have hwy : IntKind.i64.wrap ((y : Nat) : Int) = y := IntWalk.i64_in _ (by omega)
                have hym : (y : Int).tmod 9973 = ((y % 9973 : Nat) : Int) := by rw [Int.tmod_eq_emod_of_nonneg (by omega)]; omega
                have hyw : IntKind.i64.wrap ((y % 9973 : Nat) : Int) = ((y % 9973 : Nat) : Int) := IntWalk.i64_in _ (by omega)
                obtain ⟨t, ht⟩ : ∃ t, t = y % 9973 := ⟨_, rfl⟩
                have htl : t < 9973 := by omega
                rw [← ht] at hym hyw HBY
                have HXN := Lib.hid hxn
                clear hxn hy ht
                go_wp2_with fail
                go_loopg [85] (n + 1) (fun g j wr => ∃ (q : Nat) (T4 : List (List Int)), q ≤ n ∧ n - q < g ∧ j = .int .i64 q ∧ BMem w wr (w.heap.size + 1) Bl Gk n vs2 T4 z2 ∧ LIn T3 T4 n c p (t : Int) q)
                case atStart => exact ⟨0, T3, by omega, by omega, rfl, HM4.out, LIn.start⟩
                case round =>
                  obtain ⟨q, T4, hq1, hgq, rfl, hm4, hl4⟩ := hrel
                  have HM5 := Lib.hid hm4
                  have HL5 := Lib.hid hl4
                  have hbox4 := hm4.box
                  clear hm4 hl4 hbox3 fhp fep ffp fvp
                  by_cases hqn : q < n
                  · obtain ⟨gp, rp, fhp, fvp, ffp, fep, _⟩ := HM5.out.at hpn hqn
                    obtain ⟨gc, rc, fhc, fvc, _, fec, _⟩ := HM5.out.at hlt hqn
                    rw [HL5.out.here hpn hqn] at fep
                    rw [HL5.out.here hlt hqn] at fec
                    have ra := HE4.out.rng p q hpn hqn
                    have rb := HE4.out.rng c q hlt hqn
                    obtain ⟨u, hu⟩ : ∃ u, u = fn T3 p q := ⟨_, rfl⟩
                    obtain ⟨v, hv⟩ : ∃ v, v = fn T3 c q := ⟨_, rfl⟩
                    rw [← hu] at fep ra
                    rw [← hv] at fec rb
                    have htv := bd_mul (a := (t : Int)) (b := v) (B := 10000) (C := 10000) (by omega) (by omega) (by omega) (by omega)
                    obtain ⟨htv1, htv2⟩ := htv
                    obtain ⟨s, hs⟩ : ∃ s, s = (t : Int) * v := ⟨_, rfl⟩
                    rw [← hs] at htv1 htv2
                    have hts : (t : Int) * v = s := hs.symm
                    have hws : IntKind.i64.wrap s = s := IntWalk.i64_in _ (by omega)
                    have hwd : IntKind.i64.wrap (u - s) = u - s := IntWalk.i64_in _ (by omega)
                    have hF := fun W => Field_any (u - s) W (by omega) (by omega)
                    have HVAL := Lib.hid (show (u - s) % 9973 = (fn T3 p q - (t : Int) * fn T3 c q) % 9973 by rw [hu, hs, hv])
                    obtain ⟨r, hrr⟩ : ∃ r, r = (u - s) % 9973 := ⟨_, rfl⟩
                    rw [← hrr] at hF HVAL
                    have HFF := Lib.hid hF
                    have hq0 : (0 : Int) ≤ q := by omega
                    have hq3 : (q : Int) < n := by omega
                    have hz1' : w.heap.size < wr.heap.size := World.block_lt_of_cell? _ _ hbox4
                    have hz2 : Gk < wr.heap.size := World.block_lt_of_cell? _ _ fhp
                    have hz3 : gp < wr.heap.size := World.block_lt_of_cell? _ _ fep
                    have hz4 : gc < wr.heap.size := World.block_lt_of_cell? _ _ fec
                    have HST5 := Lib.hid (fun (W : World) (hC : Below wr.heap.size wr W) => (HM5.out.call hC).store hpn hqn fvp r)
                    have HL6 := Lib.hid (HL5.out.next HM5.out.sq hpn hqn r HVAL.out)
                    clear hu hv hs hrr hF ra rb fvp fvc htv1 htv2
                    go_wp2_with fail
                    refine wp_region_quiet_tail (C := Cls wr.heap.size wr) 23 (by kernel_rfl) (by kernel_rfl) Cls.start ?_
                    simp only [List.take_succ_cons, List.take_zero, List.drop_succ_cons, List.drop_zero]
                    repeat
                      (refine wpQuiet_step (fun K hK => ?_)
                       go_simp
                       first
                         | (refine hK _ ?_; clear hK K)
                         | (apply Exists.intro
                            refine ⟨fun w' hC => ?_, hK _ ?_⟩
                            · (obtain ⟨hr, hr2⟩ := hC.rules
                               first
                                 | (go_at_call 92; exact Cls.callSame hC (HFF.out _))
                                 | (go_simp; done)
                                 | (go_simp; rfl))
                            clear hK K))
                    refine wpQuiet_nil ?_
                    intro W5 hW5
                    obtain ⟨hcc, hff⟩ := hW5.rules
                    go_wp2_with fail
                    go_roundg (n - q)
                    case measure => omega
                    case rel => exact ⟨q + 1, _, by omega, by omega, by go_num, HST5.out _ hW5, HL6.out⟩
                  · obtain rfl : q = n := by omega
                    have HE6 := Lib.hid (HE4.out.row HL5.out (by omega) hpn (by rw [HXN.out]; exact HBY.out))
                    go_wp2_with fail
                    go_roundg (q - p)
                    case measure => omega
                    case rel => exact ⟨p + 1, T4, by omega, by omega, by omega, by go_num, HM5.out, HE6.out⟩
              · obtain rfl : p = n := by omega
                have HN := Lib.hid (HE4.out.next (by omega))
                go_wp2_with fail
                go_roundg (p - c)
                case measure => omega
                case rel => exact ⟨c + 1, _, T3, vs2, by omega, by omega, by go_num, HM4.out, by rw [HZZ.out]; exact HN.out⟩
        · obtain rfl : k = n := by omega
          have hD0 : R = 0 := by rw [HRR.out]; exact HS1.out.stop hlt (fun q h1 h2 => HZ.out q h1 h2)
          have HD0 := Lib.hid hD0
          clear hD0
          go_wp2_with fail
          go_ret
          exact ⟨by rw [HD0.out]; rfl, HM.out.bel⟩
    · obtain rfl : c = n := by omega
      have hfin : out = R := by rw [HRR.out]; exact HS1.out.fin
      have HFI := Lib.hid hfin
      have hlast := HM.out.last
      clear hfin
      go_wp2_with fail
      go_ret
      exact ⟨ret_int HFI.out, HM.out.bel⟩
end Go.Proofs.YtokneabcgmjhdaaGreatDoor
