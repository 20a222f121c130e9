/- It proves that rankmerelaw4.PfaffSwap, called with any list of lists of integers and any two integers, returns true, and leaves its arguments as they were. There are no conditions. -/
import Derived.Test.YtdpdopgngpamnaaPfLaw
import Derived.Test.YtdpdopgngpamnaaPfFact
import Derived.Test.YtdpdopgngpamnaaRCopy
import Derived.Test.YtdpdopgngpamnaaLawIn
import Derived.Test.YtdpdopgngpamnaaMix
import Derived.Test.YtdpdopgngpamnaaOpen
import Derived.ProofKit
import Derived.OpenShut
import Derived.ShutString
import Derived.ChangeOld
import Derived.Lib.SmallJoins
namespace Go.Proofs.Ytdpdopgngpamnaa.PfaffSwapP
open Go.ChangeShapes Go.WideShapes Go.ChangeAt Go.RowKit Go.Joins
open Go.ChangeMaps (open_string shut_string)
open Go.Proofs.Ytdpdopgngpamnaa
set_option linter.unusedVariables false
set_option linter.unusedSimpArgs false

theorem swap_bad (a : Option Addr) (n cap : Nat) (rows : List (List Int)) (i j : Int) (w : World) (hr : RowsAt w a n rows) (hcap : n ≤ cap) (hs : Small n rows) (he : skErr rows ≠ 0) :
    Calls Try.prog 3 #[.slice a n cap, .int .i64 i, .int .i64 j] w fun e w' => e = .returned (.bool true) ∧ Below w.heap.size w w' := by
  have hO := fun w (h : RowsAt w a n rows) => PfFn_any a n cap rows w h hcap hs
  have HR := Lib.hid hr
  have hv : pfV rows = 0 := by unfold pfV; rw [if_neg he]
  have hE : errV (skErr rows) = .iface 42 (.int .i64 (skErr rows)) := by unfold errV; rw [if_neg he]
  rw [hv, hE] at hO
  generalize skErr rows = e at *
  clear hr hs hE he hv
  go_enter Try.func3, Try.ntmps3
  go_wp2_with fail
  go_at_call 6
  refine (pfaffFact_any _).mono ?_
  rintro e w1 ⟨rfl, hb⟩
  go_wp2_with fail
  go_at_call 7
  refine (hO _ (HR.out.call hb)).mono ?_
  rintro e w2 ⟨rfl, hb2⟩
  go_wp2_with fail
  go_ret
  exact ⟨rfl, below_trans hb hb2⟩

set_option maxHeartbeats 1000000 in
theorem swap_good (a : Option Addr) (n cap : Nat) (rows : List (List Int)) (i j : Int) (w : World) (hr : RowsAt w a n rows) (hcap : n ≤ cap) (hs : Small n rows) (he : skErr rows = 0) :
    Calls Try.prog 3 #[.slice a n cap, .int .i64 i, .int .i64 j] w fun e w' => e = .returned (.bool true) ∧ Below w.heap.size w w' := by
  have hO := fun w (h : RowsAt w a n rows) => PfFn_any a n cap rows w h hcap hs
  have hl := hr.1
  obtain ⟨h1, h2, h3, h4, h5⟩ := skErr_good he
  rw [hl] at h1 h3 h4 h5
  obtain ⟨f1, f2⟩ := pfV_flip hl he
  have hsm : ∀ A, Sq n A → Small n A := fun A hA => ⟨by omega, fun k hk => by rw [hA.2 k hk]; omega⟩
  have hF := fun a cap w (hc : n ≤ cap) (h : RowsAt w a n (flipTo rows n n)) => PfFn_any a n cap (flipTo rows n n) w h hc (hsm _ (sq_flip _))
  obtain ⟨hv1, hv2⟩ := pfV_bd rows
  rw [f1, f2, errV_zero] at hF
  rw [he, errV_zero] at hO
  have HR := Lib.hid hr
  have HS := Lib.hid h1
  have HE := Lib.hid he
  have HL := Lib.hid hl
  obtain ⟨v, hv⟩ : ∃ v, v = pfV rows := ⟨_, rfl⟩
  rw [← hv] at hO hF hv1 hv2
  have HV := Lib.hid hv
  have hn0 : (0 : Int) ≤ n := by omega
  clear hr hs he hl h1 h2 h5 f1 f2 hv
  have hq : ∃ q, q = (if n % 4 = 2 then -v else v) ∧ ((((n : Int) % 4 == 2) = true ∧ ((n : Int) % 4 != 2) = false ∧ q = -v) ∨ (((n : Int) % 4 == 2) = false ∧ ((n : Int) % 4 != 2) = true ∧ q = v)) := by
    refine ⟨_, rfl, ?_⟩
    by_cases h : n % 4 = 2
    · left; rw [if_pos h]; refine ⟨?_, ?_, rfl⟩ <;> (simp; omega)
    · right; rw [if_neg h]; refine ⟨?_, ?_, rfl⟩ <;> (simp; omega)
  obtain ⟨z, hq, hqc⟩ := hq
  rw [← hq] at hF
  clear hq
  rcases hqc with ⟨hm1, hm2, rfl⟩ | ⟨hm1, hm2, rfl⟩
  all_goals
    go_enter Try.func3, Try.ntmps3
    go_wp2_with fail
    go_at_call 6
    refine (pfaffFact_any _).mono ?_
    rintro e w1 ⟨rfl, hb⟩
    go_wp2_with fail
    go_at_call 7
    refine (hO _ (HR.out.call hb)).mono ?_
    rintro e w2 ⟨rfl, hb2⟩
    have hB2 := below_trans hb hb2
    clear hb hb2 hO
    go_wp2_with fail
    go_at_call 8
    refine (Flip_any _ n n _ rows _ (HR.out.call hB2) (by omega) (by omega) (by omega) hcap HS.out.2).mono ?_
    rintro e w3 ⟨⟨vf, rfl, hf⟩, hb3⟩
    obtain ⟨a3, cap3, rfl, hc3, hc3', hra3⟩ := hf.rowsAt
    rw [flipTo_len] at hc3 hra3 ⊢
    have HF3 := Lib.hid hra3
    have hB3 := below_trans hB2 hb3
    clear hf hra3 hb3 hB2
    go_wp2_with fail
    go_at_call 7
    refine (hF _ _ _ hc3 HF3.out).mono ?_
    rintro e w4 ⟨rfl, hb4⟩
    have hB4 := below_trans hB3 hb4
    clear hF hB3 hb4
    have hn1 : (1 : Int) ≤ n := by omega
    go_wp2_with fail
    go_at_call 9
    refine (in_any _ _ _ _).mono ?_
    rintro e w5 ⟨rfl, rfl⟩
    cases hbi : inB i 0 ((n : Int) - 1)
    · go_wp2_with fail
      go_ret
      exact ⟨rfl, hB4⟩
    · go_wp2_with fail
      go_at_call 9
      refine (in_any _ _ _ _).mono ?_
      rintro e w5 ⟨rfl, rfl⟩
      cases hbj : inB j 0 ((n : Int) - 1)
      · go_wp2_with fail
        go_ret
        exact ⟨rfl, hB4⟩
      · obtain ⟨hi0, hi1⟩ := inB_true hbi
        obtain ⟨hj0, hj1⟩ := inB_true hbj
        obtain ⟨p, rfl⟩ := Int.eq_ofNat_of_zero_le hi0
        obtain ⟨q, rfl⟩ := Int.eq_ofNat_of_zero_le hj0
        by_cases hpq : p = q
        · have hpb : ((p : Int) == (q : Int)) = true := by simp [hpq]
          clear hpq
          go_wp2_with fail
          go_ret
          exact ⟨rfl, hB4⟩
        · have hpb : ((p : Int) == (q : Int)) = false := by simp; omega
          have hp : p < n := by omega
          have hq : q < n := by omega
          have hp1 : (p : Int) < n := by omega
          have hq1 : (q : Int) < n := by omega
          have hqp : ¬ q = p := fun h => hpq h.symm
          have HPQ := Lib.hid hpq
          clear hbi hbj
          go_wp2_with fail
          go_at_call 10
          refine (RCopy_any _ n _ rows _ (HR.out.call hB4) (by omega) hcap (fun k hk => by rw [HS.out.2 k hk]; omega)).mono ?_
          rintro e w5 ⟨⟨vc, rfl, hcp⟩, hb5⟩
          obtain ⟨G, cap5, vs, rfl, hmx⟩ := OwnRows.mix hcp (by rw [HL.out]; omega)
          rw [HL.out]
          have hB5 := below_trans hB4 hb5
          obtain ⟨b, off, rfl, hb⟩ := HR.out.some (by omega)
          have hG := hmx.base
          have hz4 := hB4.size
          have hbG : b ≠ G := by omega
          obtain ⟨ra1, rc1, hcq, hrq⟩ := readV_of HR.out hq hB5 (show w.heap.size ≤ G by omega)
          obtain ⟨ra2, rc2, hcp1, hrp⟩ := readV_of HR.out hp hB5 (show w.heap.size ≤ G by omega)
          rw [HS.out.2 q hq] at hcq
          rw [HS.out.2 p hp] at hcp1
          have hfp := hmx.free p
          have hfq := hmx.free q
          have hgp := hmx.cell (k := p) (by rw [HL.out]; exact hp)
          have hgq := hmx.cell (k := q) (by rw [HL.out]; exact hq)
          have m1 := hmx.put (k := p) (by rw [HL.out]; exact hp) hrq
          have st1 := World.ownsRow.stored hmx.1 p (Value.slice ra1 (rows.getD q []).length rc1)
          have m2 := m1.put (k := q) (by rw [List.length_set, HL.out]; exact hq) (hrp.kept st1.2 (fun k e => by cases e; rfl))
          rw [HS.out.2 q hq, HS.out.2 p hp] at m2
          have HM2 := Lib.hid (show MixRows _ _ _ _ _ (swapL rows p q) from m2)
          have hGz : G < w5.heap.size := hG.2
          clear hcp hmx hrq hrp m1 st1 m2 hb5
          go_wp2_with fail
          go_at_call 8
          have hB6 := (hB5.setCell (p := ⟨G, p, none⟩) (by show w.heap.size ≤ G; omega) (Value.slice ra1 n rc1)).setCell (p := ⟨G, q, none⟩) (by show w.heap.size ≤ G; omega) (Value.slice ra2 n rc2)
          have hr6 := HM2.out.rowsAt
          have hsq6 := sq_swap HS.out hp hq
          have hc6 := HM2.out.cap_le
          rw [hsq6.1] at hr6 hc6
          have HS6 := Lib.hid hsq6
          have HR6 := Lib.hid hr6
          clear hsq6 hr6
          refine (Flip_any _ n n _ (swapL rows p q) _ HR6.out (by omega) (by omega) (by omega) hc6 HS6.out.2).mono ?_
          rintro e w6 ⟨⟨vf6, rfl, hf6⟩, hb6⟩
          have hB7 := below_trans hB6 hb6
          obtain ⟨G7, cap7, vs7, rfl, hm7⟩ := OwnRows.mix hf6 (by rw [flipTo_len]; omega)
          rw [flipTo_len]
          have hfl7 := flipTo_len (swapL rows p q) n n
          have hsq7 := sq_flip (n := n) (swapL rows p q)
          have hgz7 := hm7.base
          obtain ⟨ra3, rc3, e3, hc3p, hrp7⟩ := hm7.row (k := p) (by rw [hfl7]; exact hp)
          obtain ⟨ra4, rc4, e4, hc3q, hrq7⟩ := hm7.row (k := q) (by rw [hfl7]; exact hq)
          rw [hsq7.2 p hp] at hc3p
          rw [hsq7.2 q hq] at hc3q
          have hf7p := hm7.free p
          have hf7q := hm7.free q
          have m1 := hm7.put (k := p) (by rw [hfl7]; exact hp) hrq7
          have st1 := World.ownsRow.stored hm7.1 p (Value.slice ra4 ((flipTo (swapL rows p q) n n).getD q []).length rc4)
          have m2 := m1.put (k := q) (by rw [List.length_set, hfl7]; exact hq) (hrp7.kept st1.2 (fun k e => by cases e; rfl))
          rw [hsq7.2 p hp, hsq7.2 q hq] at m2
          have HM8 := Lib.hid (show MixRows _ _ _ _ _ (swapL (flipTo (swapL rows p q) n n) p q) from m2)
          have HS7 := Lib.hid hsq7
          clear hf6 hm7 hfl7 hsq7 hrp7 hrq7 m1 st1 m2 e3 e4 hb6 hgp hgq hfp hfq hcq hcp1
          go_wp2_with fail
          go_at_call 8
          have hB8 := (hB7.setCell (p := ⟨G7, p, none⟩) (by show w.heap.size ≤ G7; have := hB6.size; omega) (Value.slice ra4 n rc4)).setCell (p := ⟨G7, q, none⟩) (by show w.heap.size ≤ G7; have := hB6.size; omega) (Value.slice ra3 n rc3)
          have hr8 := HM8.out.rowsAt
          have hsq8 := sq_swap HS7.out hp hq
          have hc8 := HM8.out.cap_le
          rw [hsq8.1] at hr8 hc8
          have HS8 := Lib.hid hsq8
          have HR8 := Lib.hid hr8
          clear hsq8 hr8
          refine (Flip_any _ n n _ (swapL (flipTo (swapL rows p q) n n) p q) _ HR8.out (by omega) (by omega) (by omega) hc8 HS8.out.2).mono ?_
          rintro e w8 ⟨⟨vf8, rfl, hf8⟩, hb8⟩
          have hB9 := below_trans hB8 hb8
          obtain ⟨a9, cap9, rfl, hc9, hc9', hra9⟩ := hf8.rowsAt
          rw [flipTo_len] at hc9 hra9 ⊢
          have HR9 := Lib.hid hra9
          obtain ⟨k1, k2⟩ := pfV_swap HL.out HE.out hp hq HPQ.out
          have hL := PfFn_any a9 n cap9 _ w8 HR9.out hc9 (hsm _ (sq_flip _))
          rw [k1, k2, errV_zero, ← HV.out] at hL
          clear hf8 hra9 hb8 k1 k2 hc3p hc3q hf7p hf7q
          go_wp2_with fail
          go_at_call 7
          refine (hL).mono ?_
          rintro e w9 ⟨rfl, hb9⟩
          have hB10 := below_trans hB9 hb9
          go_wp2_with fail
          go_ret
          exact ⟨rfl, hB10⟩

theorem PfaffSwap_any (a : Option Addr) (n cap : Nat) (rows : List (List Int)) {w' : World} (hr : RowsAt w' a n rows) (hcap : n ≤ cap) (hs : Small n rows) (i j : Int) (w : World) (e : w' = w) :
    Calls Try.prog 3 #[.slice a n cap, .int .i64 i, .int .i64 j] w fun e w' => e = .returned (.bool true) ∧ Below w.heap.size w w' := by
  subst e
  by_cases he : skErr rows = 0
  · exact swap_good a n cap rows i j w' hr hcap hs he
  · exact swap_bad a n cap rows i j w' hr hcap hs he
theorem frame_own : ownKnob Try.prog.godebug = none := by kernel_rfl
theorem frame_laid : laidOutB Try.prog = true := by kernel_rfl
set_option maxRecDepth 100000 in
theorem frame_lifted (os : Os) (started : os.Started) (H : Type) (enc : TypeId × Value → H) :
    ReturnsInHanded {} Try.checked os 3 .any (Rows.pfaffSwapSpec.pre6 enc Try.prog Try.f3 Rows.pfaffSwapRow.domain false) (Rows.pfaffSwapSpec.post enc Try.prog Try.f3 false true false false) := by
  refine returnsInHanded_of_change (C := Try.checked) frame_own started (by kernel_rfl) Try.func3
    (ChangeSpec.witness6 (enc := enc) (C := Try.checked) false ⟨#[], #[.slice none 0 0, .int .i64 0, .int .i64 0], []⟩ 8 (by kernel_rfl) (by kernel_rfl) (by kernel_rfl) (by kernel_rfl)) ?_
  intro W base args ds gs before hval0 hW hcnd _
  have hval : ∀ (j : Nat) t v, Try.f3.params[j]? = some t → args[j]? = some v → Value.okWide Try.prog W .any base t v := hval0
  have hW' := hW
  obtain ⟨p, q, hA0, hV, rfl, hfz, hnd⟩ := hW
  have hA : DataW.TrodAll enc Try.prog W 0 (fun _ => true) true Try.f3.params.toList args.toList ds p := hA0
  rw [Try.params3] at hA hval
  obtain ⟨v0, vs0, d0, ds0, p0, q0, hargs, rfl, rfl, h0, r0⟩ := trodAll_cons hA
  obtain ⟨v1, vs1, d1, ds1, p1, q1, rfl, rfl, rfl, h1, r1⟩ := trodAll_cons r0
  obtain ⟨v2, vs2, d2, ds2, p2, q2, rfl, rfl, rfl, h2, r2⟩ := trodAll_cons r1
  obtain ⟨rfl, rfl, rfl⟩ := trodAll_nil r2
  obtain rfl : args = #[v0, v1, v2] := by cases args; simp_all
  obtain ⟨rfl, rfl⟩ := trodVars_none hV
  have k0 := h0
  have lt0 : ∀ x ∈ p0, x.block < W.heap.size := by obtain ⟨m, hm⟩ := k0; exact DataW.trod_lt m _ _ _ hm
  obtain ⟨a0, len0, cap0, rfl⟩ := okWide_slice Try.underlying22 (hval 0 22 v0 rfl rfl)
  obtain ⟨xs0, hxs0, hcap0, hmax0⟩ := open_rowsAt Try.underlying22 Try.underlying30 Try.underlying3 (by kernel_rfl) (by kernel_rfl) h0
  have k1 := h1
  have lt1 : ∀ x ∈ p1, x.block < W.heap.size := by obtain ⟨m, hm⟩ := k1; exact DataW.trod_lt m _ _ _ hm
  obtain ⟨a1, rfl, rfl, rfl, w1⟩ := open_int Try.underlying3 (hval 1 3 v1 rfl rfl) h1
  have k2 := h2
  have lt2 : ∀ x ∈ p2, x.block < W.heap.size := by obtain ⟨m, hm⟩ := k2; exact DataW.trod_lt m _ _ _ hm
  obtain ⟨a2, rfl, rfl, rfl, w2⟩ := open_int Try.underlying3 (hval 2 3 v2 rfl rfl) h2
  clear hA0 hval0
  refine (PfaffSwap_any a0 len0 cap0 xs0 hxs0 hcap0 hmax0 a1 a2 W rfl).mono fun e W' ⟨he, bel⟩ => ?_
  subst he
  exact ⟨_, rfl, _, _, _, [], _, [], hW', trodAll_mk1 (shut_bool Try.underlying4 _), (trodAll_cons_mk (Below.trod frame_laid (by kernel_rfl) (of_decide_eq_true (by kernel_rfl)) k0 bel lt0) (trodAll_cons_mk (Below.trod frame_laid (by kernel_rfl) (of_decide_eq_true (by kernel_rfl)) k1 bel lt1) (trodAll_cons_mk (Below.trod frame_laid (by kernel_rfl) (of_decide_eq_true (by kernel_rfl)) k2 bel lt2) trodAll_mk0))), rfl, bel.frame _, fun h => by cases h⟩

theorem PfaffSwap_over : Rows.pfaffSwapRow.holds Try.pinned (OpenSpec.ofChange Rows.pfaffSwapSpec) :=
  OpenClaim.holds_of_wide 3 Try.f3 rfl rfl rfl rfl rfl rfl rfl ⟨rfl, rfl, rfl, rfl, rfl⟩ rfl rfl rfl rfl rfl (by kernel_rfl) Try.func3 (by kernel_rfl)
    (of_decide_eq_true (by kernel_rfl)) (by unfold Func.isWrapper; first | (rw [if_pos (by decide +kernel)]; kernel_rfl) | (rw [if_neg (by decide +kernel)]; exact ⟨rfl, rfl⟩))
    (fun os started H enc _ => frame_lifted os started H enc)

/-- THE STATEMENT -/
theorem PfaffSwap_holds : Rows.PfaffSwapSaid := PfaffSwap_over
end Go.Proofs.Ytdpdopgngpamnaa.PfaffSwapP
