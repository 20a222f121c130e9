/- It proves that rankmerelaw4.SmithTurn, called with any list of lists of integers and any list of integers, returns true, and leaves its arguments as they were. There are no conditions. -/
import Derived.Test.YtllomialkiaccaaSmFact
import Derived.Test.YtllomialkiaccaaHRows
import Derived.Test.YtllomialkiaccaaRCopy
import Derived.Test.YtllomialkiaccaaRAbs
import Derived.Test.YtllomialkiaccaaSqOf
import Derived.Test.YtllomialkiaccaaLawIn
import Derived.Test.YtllomialkiaccaaPut
import Derived.Test.YtllomialkiaccaaOpen
import Derived.Test.YtllomialkiaccaaSmTools
import Derived.Test.YtllomialkiaccaaSmTurn
import Derived.Deep.RegionHeld3
import Derived.Deep.AppendLies
import Derived.StillTailTactics
import Derived.BigQuiet
import Derived.Deep.QuietTactic
import Derived.ProofKit
import Derived.OpenShut
import Derived.ShutString
import Derived.ChangeOld
import Derived.Lib.SmallJoins
namespace Go.Proofs.Ytllomialkiaccaa.SmithTurnP
open Go.ChangeShapes Go.WideShapes Go.ChangeAt Go.RowKit Go.Joins
open Go.ChangeMaps (open_string shut_string)
open Go.Proofs.Ytllomialkiaccaa Go.Proofs.Ytllomialkiaccaa.SmT
set_option linter.unusedVariables false
set_option linter.unusedSimpArgs false

theorem turn_bad (a : Option Addr) (n cap : Nat) (rows : List (List Int)) (ax : Option Addr) (m capx : Nat) (w : World) (hr : RowsAt w a n rows) (hcap : n ≤ cap) (hs : Small n rows) (he : herErr rows ≠ 0) :
    Calls Try.prog 5 #[.slice a n cap, .slice ax m capx] w fun e w' => e = .returned (.bool true) ∧ Below w.heap.size w w' := by
  have hF := fun w (h : RowsAt w a n rows) => Parts_bad a n cap rows w h hcap hs he
  rw [errV_pos he] at hF
  generalize herErr rows = e at *
  have HR := Lib.hid hr
  clear hr he hs
  go_enter Try.func5, Try.ntmps5
  go_wp2_with fail
  go_at_call 6
  refine (smithFact_any _).mono ?_
  rintro e w1 ⟨rfl, hb⟩
  go_wp2_with fail
  go_at_call 7
  refine (hF _ (HR.out.call hb)).mono ?_
  rintro e w2 ⟨rfl, hb2⟩
  go_wp2_with fail
  go_ret
  exact ⟨rfl, below_trans hb hb2⟩

set_option maxRecDepth 100000 in
set_option maxHeartbeats 4000000 in
theorem turn_good (a : Option Addr) (n cap : Nat) (rows : List (List Int)) (ax : Option Addr) (m capx : Nat) (x : List Int) (w : World) (hr : RowsAt w a n rows) (hx : IntsAt w ax m x) (hcap : n ≤ cap) (hs : Small n rows) (hm : m ≤ 9223372036854775807) (he : herErr rows = 0) :
    Calls Try.prog 5 #[.slice a n cap, .slice ax m capx] w fun e w' => e = .returned (.bool true) ∧ Below w.heap.size w w' := by
  obtain ⟨ii, hi, hz0, hz1, hz2⟩ := info_parts info_int
  have hk := herErr_good hr.1 he
  have hF := Lib.hid (fun w (h : RowsAt w a n rows) => Parts_good a n cap rows w h hcap hs he)
  have hn1 := hk.pos
  have hn3 := hk.le
  obtain ⟨b, off, rfl, hb0⟩ := hr.some hn1
  have hFl := Lib.hid (fun W (h : RowsAt W (some ⟨b, off, none⟩) n rows) => Flip_any (some ⟨b, off, none⟩) n n cap rows W h hn1 (by omega) (by omega) hcap (fun k hk' => hk.sq.2 k hk'))
  obtain ⟨hf0, hfp⟩ := flip_ok hk
  have hHas := Lib.hid (fun ax2 capx2 W (h : RowsAt W (some ⟨b, off, none⟩) n rows) (h2 : IntsAt W ax2 n (allL x ((partsTo n (fn rows) n).getD (n - 1) 0) n)) => Has_any (some ⟨b, off, none⟩) ax2 n cap n capx2 rows (allL x ((partsTo n (fn rows) n).getD (n - 1) 0) n) W h h2 hcap hs (by omega))
  have hcase := all_has hk he x
  have hqb := parts_at hk (s := n - 1) (by omega)
  have HR := Lib.hid hr
  have HX := Lib.hid hx
  have HK := Lib.hid hk
  have hxl := hx.1
  obtain ⟨L, hL⟩ : ∃ L, L = partsTo n (fn rows) n := ⟨_, rfl⟩
  have hLl : L.length = n := by rw [hL, partsTo_len]
  rw [← hL] at hF hHas hcase hqb hfp
  have hflat := Lib.hid (fun (G c : Nat) W (h : RowsAt W (some ⟨G, 0, none⟩) n (flipTo rows n n)) (hc : n ≤ c) => Parts_good (some ⟨G, 0, none⟩) n c (flipTo rows n n) W h hc (small_sq hn3 (sq_flip rows)) hf0)
  rw [hfp] at hflat
  have HLL := Lib.hid hLl
  have HC := Lib.hid hcase
  have HXL := Lib.hid hxl
  have hflen := flipTo_len rows n n
  have HFL := Lib.hid hflen
  clear hr hs he hk hL hLl hcase hfp hf0 hx hxl hflen
  go_enter Try.func5, Try.ntmps5
  go_wp2_with fail
  go_at_call 6
  refine (smithFact_any _).mono ?_
  rintro e w1 ⟨rfl, hb⟩
  go_wp2_with fail
  go_at_call 7
  refine (hF.out _ (HR.out.call hb)).mono ?_
  rintro e w2 ⟨⟨vl, rfl, hO⟩, hb2⟩
  have hB2 := below_trans hb hb2
  obtain ⟨va, vcap, rfl, _, _, _, hI⟩ := hO.shape
  rw [HLL.out] at hI ⊢
  have HI := Lib.hid hI
  obtain ⟨bl, ol, rfl, hbl, _⟩ := hI.some hn1
  clear hb hb2 hF hO hI
  go_wp2_with fail
  go_at_call 15
  refine (hFl.out _ (HR.out.call hB2)).mono ?_
  rintro e w3 ⟨⟨vf, rfl, hOf⟩, hb3⟩
  obtain ⟨vsf, hvf⟩ := hOf.vals
  obtain ⟨Gf, capf, rfl, hcapf⟩ := hvf.isRows (by rw [HFL.out]; exact hn1)
  have hrf := hvf.read
  rw [HFL.out] at hrf hcapf ⊢
  have HRF := Lib.hid hrf
  have hB3 := below_trans hB2 hb3
  have HI3 := Lib.hid (HI.out.call hb3)
  clear hOf hvf hrf hb3 HI hFl
  go_wp2_with fail
  go_at_call 7
  refine (hflat.out _ _ _ HRF.out hcapf).mono ?_
  rintro e w4 ⟨⟨vp, rfl, hO4⟩, hb4⟩
  obtain ⟨va4, cap4, rfl, _, _, _, hI4⟩ := hO4.shape
  rw [HLL.out] at hI4 ⊢
  have HI4 := Lib.hid (HI3.out.call hb4)
  have hEE := Lib.hid (EInts_like _ (some ⟨bl, ol, none⟩) n cap4 vcap L w4 hI4 HI4.out (by omega))
  have hB4 := below_trans hB3 hb4
  clear hO4 hI4 HI3 HRF hflat
  go_wp2_with fail
  go_at_call 13
  refine (hEE.out).mono ?_
  rintro e w5 ⟨rfl, hb5⟩
  have hB5 := below_trans hB4 hb5
  have HI5 := Lib.hid (HI4.out.call hb5)
  clear hEE HI4 hb5 hb4 hB4 hB3 hB2
  by_cases hmn : m = n
  case neg =>
    have hmb : ((m : Int) != (n : Int)) = true := by simp; omega
    go_wp2_with fail
    go_ret
    exact ⟨rfl, hB5⟩
  subst hmn
  have hAll := Lib.hid (fun W (h : IntsAt W ax m x) => RAll_any ax m capx x (-100) 100 W h (by omega))
  cases hxo : anyOut (-100) 100 x
  case true =>
    rw [hxo] at hAll
    go_wp2_with fail
    go_at_call 16
    refine (hAll.out _ (HX.out.call hB5)).mono ?_
    rintro e w6 ⟨rfl, rfl⟩
    go_wp2_with fail
    go_ret
    exact ⟨rfl, hB5⟩
  rw [hxo] at hAll
  have hxe : ∀ i, i < m → -100 ≤ x.getD i 0 ∧ x.getD i 0 ≤ 100 := fun i hi => by
    have hm' : x.getD i 0 ∈ x := by
      have hi' : i < x.length := by rw [HXL.out]; exact hi
      have e : x.getD i 0 = x[i]'hi' := by simp [List.getD, hi']
      rw [e]; exact List.getElem_mem _
    have := (List.any_eq_false.1 hxo) _ hm'
    rw [Bool.not_eq_true] at this
    unfold outB at this
    rw [Bool.or_eq_false_iff, decide_eq_false_iff_not, decide_eq_false_iff_not] at this
    omega
  have HXE := Lib.hid hxe
  clear hxo hxe
  go_wp2_with fail
  go_at_call 16
  refine (hAll.out _ (HX.out.call hB5)).mono ?_
  rintro e w6 ⟨rfl, rfl⟩
  clear hAll
  go_wp2_with fail
  obtain ⟨bx, ox, rfl, hbx, hxc⟩ := HX.out.some hn1
  obtain ⟨bl', ol', hle, hbl5, hlc⟩ := HI5.out.some hn1
  obtain ⟨rfl, rfl⟩ : bl = bl' ∧ ol = ol' := by simpa using hle
  obtain ⟨e, hem⟩ : ∃ e, m = e + 1 := ⟨m - 1, by omega⟩
  have hlast := hlc e (by omega)
  rw [show m - 1 = e by omega] at hqb hHas HC
  obtain ⟨d, hd⟩ : ∃ d, d = L.getD e 0 := ⟨_, rfl⟩
  rw [← hd] at hqb hHas HC hlast
  have hin : inB d 1 100000 = true := inB_yes hqb.1 (by omega)
  have hIN := Lib.hid (fun W => in_any d 1 100000 W)
  rw [hin] at hIN
  have hmw : IntKind.i64.wrap ((m : Int) - 1) = e := by rw [show (m : Int) - 1 = e by omega]; exact IntWalk.i64_in _ (by omega)
  have he0 : (0 : Int) ≤ e := by omega
  have he1 : (e : Int) < m := by omega
  have hws := hB5.size
  have HXC := Lib.hid (show ∀ i, i < m → w5.cell? ⟨bx, ox + i, none⟩ = some (.int .i64 (x.getD i 0)) from fun i hi => by rw [hB5.cell (p := ⟨bx, ox + i, none⟩) hbx]; exact hxc i hi)
  have hbx5 : bx < w5.heap.size := by omega
  have HLC := Lib.hid hlast
  have HEM := Lib.hid hem
  clear hle hlc hlast hxc hin hd hem
  go_loopg [9, 10] (m + 1) (fun g v i wr => ∃ l : Nat, l ≤ m ∧ m - l < g ∧ i = .int .i64 l ∧ RowKit.Hid (OwnInts wr w5.heap.size v (allL x d l)) ∧ Below w5.heap.size w5 wr)
  case atStart => exact ⟨0, by omega, by omega, rfl, Lib.hid (OwnInts.nil _ _), Below.refl _ _⟩
  case round =>
    obtain ⟨l, hl, hg, rfl, HOW, hbel⟩ := hrel
    by_cases hlt : l < m
    · have hxl := HXE.out l hlt
      have hxcl := HXC.out l hlt
      have hll := HLC.out
      obtain ⟨y, hy⟩ : ∃ y, y = x.getD l 0 := ⟨_, rfl⟩
      rw [← hy] at hxl hxcl
      have hky := bd_mul (a := y) (b := d) (B := 100) (C := 48000) hxl.1 hxl.2 (by omega) (by omega)
      obtain ⟨hky1, hky2⟩ := hky
      obtain ⟨t, ht⟩ : ∃ t, t = y * d := ⟨_, rfl⟩
      rw [← ht] at hky1 hky2
      have hw1 : IntKind.i64.wrap (y * d) = t := by rw [← ht]; exact IntWalk.i64_in _ (by omega)
      have HSV := Lib.hid (show t = x.getD l 0 * d by rw [ht, hy])
      have hl0 : (0 : Int) ≤ l := by omega
      have hl1 : (l : Int) < m := by omega
      have hlen := Lib.hid (allL_len x d l)
      have HSS := Lib.hid (show ∀ W, Below w5.heap.size w5 W → W.cell? ⟨bx, ox + l, none⟩ = some (.int .i64 y) ∧ W.cell? ⟨bl, ol + e, none⟩ = some (.int .i64 d) from fun W hb =>
        ⟨by rw [hb.cell (p := ⟨bx, ox + l, none⟩) hbx5]; exact hxcl, by rw [hb.cell (p := ⟨bl, ol + e, none⟩) hbl5]; exact hll⟩)
      have hd' : Below w5.heap.size w5 wr.drew := hbel.trans Cls.start
      obtain ⟨k1, k2⟩ := HSS.out wr hbel
      have hownA := OwnInts.call (show OwnInts (wr.alloc (.cells #[.int .i64 t] 3)) w5.heap.size _ _ from World.ownsRow.alloc HOW.out _) (Cls.start (N := (wr.alloc (.cells #[.int .i64 t] 3)).heap.size))
      have hnewA : ∀ (j : Nat) (u : Value), [Value.int .i64 t][j]? = some u → (wr.alloc (.cells #[.int .i64 t] 3)).drew.cell? ((⟨wr.heap.size, 0, none⟩ : Addr).add j) = some u := fun j u h => by
        obtain ⟨_, e, h2⟩ := one_new wr (.int .i64 t) 3 j u h
        cases e
        exact h2
      have hbaseA : w5.heap.size ≤ (wr.alloc (.cells #[.int .i64 t] 3)).drew.heap.size := le_alloc hbel.size _
      have h63A : (allL x d l).length + 1 ≤ maxLen := by rw [hlen.out]; unfold maxLen; omega
      have hbyA : ((allL x d l).length + 1) * 8 ≤ 140737488355328 := by rw [hlen.out]; omega
      have HA := Lib.hid hownA
      have HNA := Lib.hid hnewA
      have HBA := Lib.hid hbaseA
      have H6A := Lib.hid h63A
      have H8A := Lib.hid hbyA
      clear hownA hnewA hbaseA h63A hbyA hy ht hxcl hll
      go_wp2_with fail
      go_at_call 8
      refine (hIN.out _).mono ?_
      rintro e' w6 ⟨rfl, rfl⟩
      go_wp2_with fail
      go_region_held3 (fun w' => w'.cell? ⟨bx, ox + l, none⟩ = some (.int .i64 y) ∧ w'.cell? ⟨bl, ol + e, none⟩ = some (.int .i64 d))
        (first | exact HSS.out _ hd' | exact HSS.out _ (hbel.alloc hbel.size _) | exact HSS.out _ ((hbel.alloc hbel.size _).trans Cls.start) | exact HSS.out _ (((hbel.alloc hbel.size _).trans Cls.start).trans (grown_below hgrow2 (le_alloc hbel.size _) (fun k hk => (HOW.out.lt k hk).1))))
        ((refine step_append_lies _ (by rfl) _ _ _ (by rfl) w5.heap.size 3 ii (.int .i64 0) 1 8 Try.underlying24 hi hz0 hz1 hz2 (by rfl) (by decide) _ (allL x d l).length ((allL x d l).map (Value.int .i64)) (by rfl) HA.out ⟨wr.heap.size, 0, none⟩ 1 1 [.int .i64 t] (by rfl) (by rfl) HNA.out (one_int _ _) (by decide) H6A.out H8A.out HBA.out _ rfl ?_; intro g2' cap2' w3 hown2 hgrow2 hat2 hlt2))
      have hs2 := OwnInts.snoc rfl hown2
      rw [HSV.out, ← allL_succ] at hs2
      have hb3 : Below w5.heap.size w5 w3 := ((hbel.alloc hbel.size _).trans Cls.start).trans (grown_below hgrow2 (le_alloc hbel.size _) (fun k hk => (HOW.out.lt k hk).1))
      go_wp2_with fail
      go_roundg (m - l)
      case measure => omega
      case rel => exact ⟨l + 1, by omega, by omega, by go_num, Lib.hid hs2, hb3⟩
    · obtain rfl : l = m := by omega
      have hO9 := HOW.out
      obtain ⟨va9, cap9, rfl, _, _, _, hI9⟩ := hO9.shape
      rw [allL_len] at hI9 ⊢
      have HI9 := Lib.hid hI9
      have hB9 := below_trans hB5 hbel
      have hH := Lib.hid (hHas.out va9 cap9 wr (HR.out.call hB9) HI9.out)
      have hAA := Lib.hid (fun W (hb : Below wr.heap.size wr W) => RAll_any va9 l cap9 (allL x d l) (-100) 100 W (HI9.out.call hb) (by omega))
      clear hO9 hI9 hHas hmw HLC
      rcases HC.out with ⟨ha, he'⟩ | ⟨he', hv⟩
      · rw [he', errV_pos (by decide)] at hH
        rw [ha] at hAA
        clear ha he' HC
        go_wp2_with fail
        go_at_call 17
        refine (hH.out).mono ?_
        rintro e w10 ⟨rfl, hb10⟩
        go_wp2_with fail
        go_at_call 16
        refine (hAA.out _ hb10).mono ?_
        rintro e w11 ⟨rfl, rfl⟩
        go_wp2_with fail
        go_ret
        exact ⟨rfl, below_trans hB9 hb10⟩
      · rw [he', hv, errV_zero] at hH
        clear he' hv HC
        go_wp2_with fail
        go_at_call 17
        refine (hH.out).mono ?_
        rintro e w10 ⟨rfl, hb10⟩
        go_wp2_with fail
        go_ret
        exact ⟨rfl, below_trans hB9 hb10⟩

theorem SmithTurn_any (a : Option Addr) (n cap : Nat) (rows : List (List Int)) {w1 : World} (hr : RowsAt w1 a n rows) (hcap : n ≤ cap) (hs : Small n rows) (ax : Option Addr) (m capx : Nat) (x : List Int) {w2 : World} (hx : IntsAt w2 ax m x) (hc2 : m ≤ capx) (hm2 : capx ≤ 9223372036854775807 ∧ (ax = none → capx = 0)) (w : World) (e1 : w1 = w) (e2 : w2 = w) :
    Calls Try.prog 5 #[.slice a n cap, .slice ax m capx] w fun e w' => e = .returned (.bool true) ∧ Below w.heap.size w w' := by
  subst e1
  subst e2
  by_cases he : herErr rows = 0
  · exact turn_good a n cap rows ax m capx x w2 hr hx hcap hs (by omega) he
  · exact turn_bad a n cap rows ax m capx w2 hr hcap hs he
theorem frame_own : ownKnob Try.prog.godebug = none := by kernel_rfl
theorem frame_laid : laidOutB Try.prog = true := by kernel_rfl
set_option maxRecDepth 100000 in
theorem frame_lifted (os : Os) (started : os.Started) (H : Type) (enc : TypeId × Value → H) :
    ReturnsInHanded {} Try.checked os 5 .any (Rows.smithTurnSpec.pre6 enc Try.prog Try.f5 Rows.smithTurnRow.domain false) (Rows.smithTurnSpec.post enc Try.prog Try.f5 false true false false) := by
  refine returnsInHanded_of_change (C := Try.checked) frame_own started (by kernel_rfl) Try.func5
    (ChangeSpec.witness6 (enc := enc) (C := Try.checked) false ⟨#[], #[.slice none 0 0, .slice none 0 0], []⟩ 8 (by kernel_rfl) (by kernel_rfl) (by kernel_rfl) (by kernel_rfl)) ?_
  intro W base args ds gs before hval0 hW hcnd _
  have hval : ∀ (j : Nat) t v, Try.f5.params[j]? = some t → args[j]? = some v → Value.okWide Try.prog W .any base t v := hval0
  have hW' := hW
  obtain ⟨p, q, hA0, hV, rfl, hfz, hnd⟩ := hW
  have hA : DataW.TrodAll enc Try.prog W 0 (fun _ => true) true Try.f5.params.toList args.toList ds p := hA0
  rw [Try.params5] at hA hval
  obtain ⟨v0, vs0, d0, ds0, p0, q0, hargs, rfl, rfl, h0, r0⟩ := trodAll_cons hA
  obtain ⟨v1, vs1, d1, ds1, p1, q1, rfl, rfl, rfl, h1, r1⟩ := trodAll_cons r0
  obtain ⟨rfl, rfl, rfl⟩ := trodAll_nil r1
  obtain rfl : args = #[v0, v1] := by cases args; simp_all
  obtain ⟨rfl, rfl⟩ := trodVars_none hV
  have k0 := h0
  have lt0 : ∀ x ∈ p0, x.block < W.heap.size := by obtain ⟨m, hm⟩ := k0; exact DataW.trod_lt m _ _ _ hm
  obtain ⟨a0, len0, cap0, rfl⟩ := okWide_slice Try.underlying22 (hval 0 22 v0 rfl rfl)
  obtain ⟨xs0, hxs0, hcap0, hmax0⟩ := open_rowsAt Try.underlying22 Try.underlying24 Try.underlying3 (by kernel_rfl) (by kernel_rfl) h0
  have k1 := h1
  have lt1 : ∀ x ∈ p1, x.block < W.heap.size := by obtain ⟨m, hm⟩ := k1; exact DataW.trod_lt m _ _ _ hm
  obtain ⟨a1, len1, cap1, rfl⟩ := okWide_slice Try.underlying24 (hval 1 24 v1 rfl rfl)
  obtain ⟨xs1, hxs1, hcap1, hmax1⟩ := open_intsAt Try.underlying24 Try.underlying3 (by kernel_rfl) h1
  clear hA0 hval0
  refine (SmithTurn_any a0 len0 cap0 xs0 hxs0 hcap0 hmax0 a1 len1 cap1 xs1 hxs1 hcap1 hmax1 W rfl rfl).mono fun e W' ⟨he, bel⟩ => ?_
  subst he
  exact ⟨_, rfl, _, _, _, [], _, [], hW', trodAll_mk1 (shut_bool Try.underlying4 _), (trodAll_cons_mk (Below.trod frame_laid (by kernel_rfl) (of_decide_eq_true (by kernel_rfl)) k0 bel lt0) (trodAll_cons_mk (Below.trod frame_laid (by kernel_rfl) (of_decide_eq_true (by kernel_rfl)) k1 bel lt1) trodAll_mk0)), rfl, bel.frame _, fun h => by cases h⟩

theorem SmithTurn_over : Rows.smithTurnRow.holds Try.pinned (OpenSpec.ofChange Rows.smithTurnSpec) :=
  OpenClaim.holds_of_wide 5 Try.f5 rfl rfl rfl rfl rfl rfl rfl ⟨rfl, rfl, rfl, rfl, rfl⟩ rfl rfl rfl rfl rfl (by kernel_rfl) Try.func5 (by kernel_rfl)
    (of_decide_eq_true (by kernel_rfl)) (by unfold Func.isWrapper; first | (rw [if_pos (by decide +kernel)]; kernel_rfl) | (rw [if_neg (by decide +kernel)]; exact ⟨rfl, rfl⟩))
    (fun os started H enc _ => frame_lifted os started H enc)

/-- THE STATEMENT -/
theorem SmithTurn_holds : Rows.SmithTurnSaid := SmithTurn_over
end Go.Proofs.Ytllomialkiaccaa.SmithTurnP
