/- It proves that rankmerelaw4.SmithIndex, called with any list of lists of integers and any integer, returns true, and leaves its arguments as they were. There are no conditions. -/
import Derived.Test.YtllomialkiaccaaSmFact
import Derived.Test.YtllomialkiaccaaHRows
import Derived.Test.YtllomialkiaccaaRCopy
import Derived.Test.YtllomialkiaccaaRAbs
import Derived.Test.YtllomialkiaccaaSqOf
import Derived.Test.YtllomialkiaccaaLawIn
import Derived.Test.YtllomialkiaccaaPut
import Derived.Test.YtllomialkiaccaaOpen
import Derived.StillTailTactics
import Derived.ProofKit
import Derived.OpenShut
import Derived.ShutString
import Derived.ChangeOld
import Derived.Lib.SmallJoins
namespace Go.Proofs.Ytllomialkiaccaa.SmithIndexP
open Go.ChangeShapes Go.WideShapes Go.ChangeAt Go.RowKit Go.Joins
open Go.ChangeMaps (open_string shut_string)
open Go.Proofs.Ytllomialkiaccaa
set_option linter.unusedVariables false
set_option linter.unusedSimpArgs false

theorem index_bad (a : Option Addr) (n cap : Nat) (rows : List (List Int)) (k : Int) (w : World) (hr : RowsAt w a n rows) (hcap : n ≤ cap) (hs : Small n rows) (he : herErr rows ≠ 0) :
    Calls Try.prog 4 #[.slice a n cap, .int .i64 k] w fun e w' => e = .returned (.bool true) ∧ Below w.heap.size w w' := by
  have hF := fun w (h : RowsAt w a n rows) => Index_bad a n cap rows w h hcap hs he
  rw [errV_pos he] at hF
  generalize herErr rows = e at *
  have HR := Lib.hid hr
  clear hr he hs
  go_enter Try.func4, Try.ntmps4
  go_wp2_with fail
  go_at_call 6
  refine (smithFact_any _).mono ?_
  rintro e w1 ⟨rfl, hb⟩
  go_wp2_with fail
  go_at_call 14
  refine (hF _ (HR.out.call hb)).mono ?_
  rintro e w2 ⟨rfl, hb2⟩
  go_wp2_with fail
  go_ret
  exact ⟨rfl, below_trans hb hb2⟩

/-- the first row k times, as far as c -/
def timesTo (M : Nat → Nat → Int) (k : Int) (c a b : Nat) : Int := if a = 0 ∧ b < c then k * M 0 b else M a b
theorem times_step {n : Nat} {A : List (List Int)} {M : Nat → Nat → Int} {c : Nat} {k x : Int} (hs : Sq n A) (hp : 0 < n) (hc : c < n) (hx : x = k * M 0 c) (h : ∀ a b, a < n → b < n → fn A a b = timesTo M k c a b) :
    ∀ a b, a < n → b < n → fn (putE A 0 c x) a b = timesTo M k (c + 1) a b := by
  intro a b ha hb
  rw [fn_put hs hp hc, h a b ha hb, hx]
  unfold timesTo
  by_cases h1 : a = 0
  · by_cases h4 : b = c
    · rw [if_pos ⟨h1, h4⟩, if_pos ⟨h1, by omega⟩, h4]
    · rw [if_neg (fun h => h4 h.2)]
      by_cases h5 : b < c
      · rw [if_pos ⟨h1, h5⟩, if_pos ⟨h1, by omega⟩]
      · rw [if_neg (fun h => h5 h.2), if_neg (by omega)]
  · rw [if_neg (fun h => h1 h.1), if_neg (fun h => h1 h.1), if_neg (fun h => h1 h.1)]
theorem times_det {n : Nat} {A : List (List Int)} {M : Nat → Nat → Int} {k : Int} (hp : 0 < n) (h : ∀ a b, a < n → b < n → fn A a b = timesTo M k n a b) : G (-1) n (fn A) = k * G (-1) n M := by
  rw [← G_scale (-1) (by decide) n 0 hp M k]
  refine G_congr (-1) n fun a b ha hb => ?_
  rw [h a b ha hb]
  unfold timesTo setRow
  by_cases h1 : a = 0
  · rw [if_pos ⟨h1, hb⟩, if_pos h1]
  · rw [if_neg (fun h => h1 h.1), if_neg h1]
theorem some_err {n : Nat} {rows A : List (List Int)} (hk : HerOk n rows) (hs : Sq n A) (hd : G (-1) n (fn A) ≠ 0) : herErr A = 0 ∨ herErr A = 1 := by
  unfold herErr
  have hp := hk.pos
  have hle := hk.le
  rcases sqErr_or (most := 3) (lo := -20) (hi := 20) hs hp (by omega) with g | g
  · left
    rw [if_pos g, hs.1, if_neg hd]
  · right
    rw [if_neg (by omega), g]
theorem small_sq {n : Nat} {A : List (List Int)} (hn : n ≤ 3) (hA : Sq n A) : Small n A := ⟨by omega, fun k hk => by rw [hA.2 k hk]; omega⟩

set_option maxRecDepth 100000 in
set_option maxHeartbeats 4000000 in
theorem index_good (a : Option Addr) (n cap : Nat) (rows : List (List Int)) (k : Int) (w : World) (hr : RowsAt w a n rows) (hcap : n ≤ cap) (hs : Small n rows) (he : herErr rows = 0) :
    Calls Try.prog 4 #[.slice a n cap, .int .i64 k] w fun e w' => e = .returned (.bool true) ∧ Below w.heap.size w w' := by
  have hk := herErr_good hr.1 he
  have hF := Lib.hid (fun w (h : RowsAt w a n rows) => Index_good a n cap rows w h hcap hs he)
  have hn1 := hk.pos
  have hn3 := hk.le
  obtain ⟨b, off, rfl, hb0⟩ := hr.some hn1
  have hbd := hk.bd
  have hD := Lib.hid (fun w (h : RowsAt w (some ⟨b, off, none⟩) n rows) => RDet_any n (some ⟨b, off, none⟩) cap rows w (by omega) hcap hk.sq h)
  rw [detN_G, wrap_in (by omega) (by omega)] at hD
  have HR := Lib.hid hr
  have HK := Lib.hid hk
  obtain ⟨d, hd⟩ : ∃ d, d = G (-1) n (fn rows) := ⟨_, rfl⟩
  rw [← hd] at hF hD hbd
  have hdn : (absI d) = (d.natAbs : Int) := by unfold absI; split <;> omega
  have HDN := Lib.hid hdn
  have HDD := Lib.hid hd
  clear hr hs he hk hd hdn
  go_enter Try.func4, Try.ntmps4
  go_wp2_with fail
  go_at_call 6
  refine (smithFact_any _).mono ?_
  rintro e w1 ⟨rfl, hb⟩
  go_wp2_with fail
  go_at_call 14
  refine (hF.out _ (HR.out.call hb)).mono ?_
  rintro e w2 ⟨rfl, hb2⟩
  have hB2 := below_trans hb hb2
  go_wp2_with fail
  go_at_call 10
  refine (hD.out _ (HR.out.call hB2)).mono ?_
  rintro e w3 ⟨rfl, hb3⟩
  have hB3 := below_trans hB2 hb3
  go_wp2_with fail
  go_at_call 9
  refine (RAbs_any _ _ (by omega) (by omega)).mono ?_
  rintro e w4 ⟨rfl, rfl⟩
  rw [HDN.out]
  clear hb hb2 hb3 hB2 hF hD
  go_wp2_with fail
  go_at_call 8
  refine (in_any _ _ _ _).mono ?_
  rintro e w6 ⟨rfl, rfl⟩
  cases hbk : inB k 1 20
  · go_wp2_with fail
    go_ret
    exact ⟨rfl, hB3⟩
  obtain ⟨hk0, hk1⟩ := inB_true hbk
  clear hbk
  go_wp2_with fail
  go_at_call 11
  refine (RCopy_any _ n _ rows _ (HR.out.call hB3) (by omega) hcap (fun k hk => by rw [HK.out.sq.2 k hk]; omega)).mono ?_
  rintro e w7 ⟨⟨vb, rfl, hcb⟩, hb7⟩
  obtain ⟨vsb, hvb⟩ := hcb.vals
  obtain ⟨Gb, capb, rfl, hcapb⟩ := hvb.isRows (by rw [HK.out.len]; omega)
  rw [HK.out.len] at hvb hcapb ⊢
  have HVB := Lib.hid hvb
  clear hcb hvb
  obtain ⟨w5, rfl⟩ : ∃ w5 : World, w5 = w3 := ⟨_, rfl⟩
  go_wp2_with fail
  go_loopg [10] (n + 1) (fun g i wr => ∃ (c : Nat) (A : List (List Int)), c ≤ n ∧ n - c < g ∧ i = .int .i64 c ∧ OwnRowsV wr w5.heap.size (.slice (some ⟨Gb, 0, none⟩) n capb) vsb A ∧ (Sq n A ∧ ∀ a b, a < n → b < n → fn A a b = timesTo (fn rows) k c a b) ∧ Below w5.heap.size w5 wr)
  case atStart => exact ⟨0, rows, by omega, by omega, rfl, HVB.out, ⟨HK.out.sq, fun a b _ _ => by simp [timesTo]⟩, hb7⟩
  case round =>
    obtain ⟨c, A, hc, hg, rfl, hA, hsA, hbel⟩ := hrel
    have HA := Lib.hid hA
    have HSA := Lib.hid hsA
    have hzr := hbel.size
    have hB8 := below_trans hB3 hbel
    clear hA hsA hb7
    by_cases hlt : c < n
    · obtain ⟨gp, op, rp, hmp, hmpc, hbp⟩ := (HR.out.call hB8).at HK.out.sq hn1 hlt
      rw [Nat.add_zero] at hmp
      have xb := HK.out.ent 0 c
      obtain ⟨x, hx⟩ : ∃ x, x = fn rows 0 c := ⟨_, rfl⟩
      rw [← hx] at hmpc xb
      have hky := bd_mul (a := k) (b := x) (B := 20) (C := 20) (by omega) hk1 (by omega) (by omega)
      obtain ⟨hky1, hky2⟩ := hky
      obtain ⟨t, ht⟩ : ∃ t, t = k * x := ⟨_, rfl⟩
      rw [← ht] at hky1 hky2
      have HNX := Lib.hid (show t = k * fn rows 0 c by rw [ht, hx])
      have hw2 : IntKind.i64.wrap (k * x) = t := by rw [← ht]; exact IntWalk.i64_in _ (by omega)
      have hc0 : (0 : Int) ≤ c := by omega
      have hc1 : (c : Int) < n := by omega
      have hn0 : (0 : Int) < n := by omega
      obtain ⟨g1, rc1', ha1, hg1, hg1z, hg1n, he1, hf1, hac1, hst1⟩ := HA.out.at HSA.out.1 hn1 hlt
      have HST := Lib.hid (hst1 t)
      have z1 := World.block_lt_of_cell? _ _ hmp
      have z2 := World.block_lt_of_cell? _ _ ha1
      dsimp only at z1 z2
      clear hx ht hst1 he1
      go_wp2_with fail
      go_still_tail 12, (by kernel_rfl)
      go_wp2_with fail
      go_roundg (n - c)
      case measure => omega
      case rel => exact ⟨c + 1, _, by omega, by omega, by go_num, HST.out.call Cls.start, ⟨put_sq HSA.out.1 _ _ _, times_step HSA.out.1 hn1 hlt HNX.out HSA.out.2⟩, (hbel.setCell (p := ⟨g1, c, none⟩) hg1 _).trans Cls.start⟩
    · obtain rfl : c = n := by omega
      have hra := HA.out.read
      rw [HSA.out.1.1] at hra
      have HRA := Lib.hid hra
      have hdet := times_det (M := fn rows) (k := k) hn1 HSA.out.2
      have hdne := HK.out.det
      rw [← HDD.out] at hdet hdne
      have hkd : G (-1) c (fn A) ≠ 0 := by rw [hdet]; exact Int.mul_ne_zero (by omega) hdne
      have hns := small_sq hn3 HSA.out.1
      rcases some_err HK.out HSA.out.1 hkd with e0 | e0
      · have hIb := Lib.hid (Index_good (some ⟨Gb, 0, none⟩) c capb A wr hra hcapb hns e0)
        have hkA := herErr_good hra.1 e0
        have hbA := hkA.bd
        rw [hdet] at hIb hbA
        have hkn : (k.natAbs : Int) = k := by omega
        have hval : ((k * d).natAbs : Int) = k * (d.natAbs : Int) := by rw [Int.natAbs_mul, Int.natCast_mul, hkn]
        rw [hval] at hIb
        obtain ⟨z, hz⟩ : ∃ z, z = k * (d.natAbs : Int) := ⟨_, rfl⟩
        have hzb : -48000 ≤ z ∧ z ≤ 48000 := by rw [hz, ← hval]; omega
        have hwz : IntKind.i64.wrap (k * (d.natAbs : Int)) = z := by rw [← hz]; exact IntWalk.i64_in _ (by omega)
        rw [← hz] at hIb
        clear hra hdet hkd hns e0 hkA hbA hval hz hzb hkn
        go_wp2_with fail
        go_at_call 14
        refine (hIb.out).mono ?_
        rintro e w8 ⟨rfl, hb8⟩
        go_wp2_with fail
        go_ret
        exact ⟨rfl, below_trans hB8 hb8⟩
      · have hIb := Lib.hid (Index_bad (some ⟨Gb, 0, none⟩) c capb A wr hra hcapb hns (by omega))
        have hHb := Lib.hid (fun W (hb : Below wr.heap.size wr W) => HRows_any (some ⟨Gb, 0, none⟩) c capb A W (HRA.out.call hb) hcapb hns)
        rw [e0, errV_pos (by decide)] at hIb
        rw [e0] at hHb
        clear hra hdet hkd hns e0
        go_wp2_with fail
        go_at_call 14
        refine (hIb.out).mono ?_
        rintro e w8 ⟨rfl, hb8⟩
        go_wp2_with fail
        go_at_call 12
        refine (hHb.out _ hb8).mono ?_
        rintro e w9 ⟨rfl, hb9⟩
        go_wp2_with fail
        go_ret
        exact ⟨rfl, below_trans hB8 (below_trans hb8 hb9)⟩

theorem SmithIndex_any (a : Option Addr) (n cap : Nat) (rows : List (List Int)) {w' : World} (hr : RowsAt w' a n rows) (hcap : n ≤ cap) (hs : Small n rows) (k : Int) (w : World) (e : w' = w) :
    Calls Try.prog 4 #[.slice a n cap, .int .i64 k] w fun e w' => e = .returned (.bool true) ∧ Below w.heap.size w w' := by
  subst e
  by_cases he : herErr rows = 0
  · exact index_good a n cap rows k w' hr hcap hs he
  · exact index_bad a n cap rows k w' hr hcap hs he
theorem frame_own : ownKnob Try.prog.godebug = none := by kernel_rfl
theorem frame_laid : laidOutB Try.prog = true := by kernel_rfl
set_option maxRecDepth 100000 in
theorem frame_lifted (os : Os) (started : os.Started) (H : Type) (enc : TypeId × Value → H) :
    ReturnsInHanded {} Try.checked os 4 .any (Rows.smithIndexSpec.pre6 enc Try.prog Try.f4 Rows.smithIndexRow.domain false) (Rows.smithIndexSpec.post enc Try.prog Try.f4 false true false false) := by
  refine returnsInHanded_of_change (C := Try.checked) frame_own started (by kernel_rfl) Try.func4
    (ChangeSpec.witness6 (enc := enc) (C := Try.checked) false ⟨#[], #[.slice none 0 0, .int .i64 0], []⟩ 8 (by kernel_rfl) (by kernel_rfl) (by kernel_rfl) (by kernel_rfl)) ?_
  intro W base args ds gs before hval0 hW hcnd _
  have hval : ∀ (j : Nat) t v, Try.f4.params[j]? = some t → args[j]? = some v → Value.okWide Try.prog W .any base t v := hval0
  have hW' := hW
  obtain ⟨p, q, hA0, hV, rfl, hfz, hnd⟩ := hW
  have hA : DataW.TrodAll enc Try.prog W 0 (fun _ => true) true Try.f4.params.toList args.toList ds p := hA0
  rw [Try.params4] at hA hval
  obtain ⟨v0, vs0, d0, ds0, p0, q0, hargs, rfl, rfl, h0, r0⟩ := trodAll_cons hA
  obtain ⟨v1, vs1, d1, ds1, p1, q1, rfl, rfl, rfl, h1, r1⟩ := trodAll_cons r0
  obtain ⟨rfl, rfl, rfl⟩ := trodAll_nil r1
  obtain rfl : args = #[v0, v1] := by cases args; simp_all
  obtain ⟨rfl, rfl⟩ := trodVars_none hV
  have k0 := h0
  have lt0 : ∀ x ∈ p0, x.block < W.heap.size := by obtain ⟨m, hm⟩ := k0; exact DataW.trod_lt m _ _ _ hm
  obtain ⟨a0, len0, cap0, rfl⟩ := okWide_slice Try.underlying22 (hval 0 22 v0 rfl rfl)
  obtain ⟨xs0, hxs0, hcap0, hmax0⟩ := open_rowsAt Try.underlying22 Try.underlying24 Try.underlying3 (by kernel_rfl) (by kernel_rfl) h0
  have k1 := h1
  have lt1 : ∀ x ∈ p1, x.block < W.heap.size := by obtain ⟨m, hm⟩ := k1; exact DataW.trod_lt m _ _ _ hm
  obtain ⟨a1, rfl, rfl, rfl, w1⟩ := open_int Try.underlying3 (hval 1 3 v1 rfl rfl) h1
  clear hA0 hval0
  refine (SmithIndex_any a0 len0 cap0 xs0 hxs0 hcap0 hmax0 a1 W rfl).mono fun e W' ⟨he, bel⟩ => ?_
  subst he
  exact ⟨_, rfl, _, _, _, [], _, [], hW', trodAll_mk1 (shut_bool Try.underlying4 _), (trodAll_cons_mk (Below.trod frame_laid (by kernel_rfl) (of_decide_eq_true (by kernel_rfl)) k0 bel lt0) (trodAll_cons_mk (Below.trod frame_laid (by kernel_rfl) (of_decide_eq_true (by kernel_rfl)) k1 bel lt1) trodAll_mk0)), rfl, bel.frame _, fun h => by cases h⟩

theorem SmithIndex_over : Rows.smithIndexRow.holds Try.pinned (OpenSpec.ofChange Rows.smithIndexSpec) :=
  OpenClaim.holds_of_wide 4 Try.f4 rfl rfl rfl rfl rfl rfl rfl ⟨rfl, rfl, rfl, rfl, rfl⟩ rfl rfl rfl rfl rfl (by kernel_rfl) Try.func4 (by kernel_rfl)
    (of_decide_eq_true (by kernel_rfl)) (by unfold Func.isWrapper; first | (rw [if_pos (by decide +kernel)]; kernel_rfl) | (rw [if_neg (by decide +kernel)]; exact ⟨rfl, rfl⟩))
    (fun os started H enc _ => frame_lifted os started H enc)

/-- THE STATEMENT -/
theorem SmithIndex_holds : Rows.SmithIndexSaid := SmithIndex_over
end Go.Proofs.Ytllomialkiaccaa.SmithIndexP
