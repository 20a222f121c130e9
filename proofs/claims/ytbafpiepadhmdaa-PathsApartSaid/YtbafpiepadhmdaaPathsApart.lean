/- It proves that rankmerelaw4.PathsApart, called with any integer and any two lists of integers, returns true, and leaves its arguments as they were. There are no conditions. -/
import Derived.Test.YtbafpiepadhmdaaPathFact
import Derived.Test.YtbafpiepadhmdaaRDet
import Derived.Test.YtbafpiepadhmdaaLawIn
import Derived.Test.YtbafpiepadhmdaaOpen
import Derived.ProofKit
import Derived.OpenShut
import Derived.ShutString
import Derived.ChangeOld
import Derived.Lib.SmallJoins
namespace Go.Proofs.Ytbafpiepadhmdaa.PathsApartP
open Go.ChangeShapes Go.WideShapes Go.ChangeAt Go.RowKit Go.Joins
open Go.ChangeMaps (open_string shut_string)
set_option linter.unusedVariables false
set_option linter.unusedSimpArgs false

def rowTo (w : Nat) (f t : List Int) (i l : Nat) : List Int := (List.range l).map fun j => wayF w f t i j
def rowsTo (w : Nat) (f t : List Int) (n k : Nat) : List (List Int) := (List.range k).map fun i => rowTo w f t i n
theorem rowTo_succ (w : Nat) (f t : List Int) (i l : Nat) : rowTo w f t i (l + 1) = rowTo w f t i l ++ [wayF w f t i l] := by simp [rowTo, List.range_succ]
theorem rowsTo_succ (w : Nat) (f t : List Int) (n k : Nat) : rowsTo w f t n (k + 1) = rowsTo w f t n k ++ [rowTo w f t k n] := by simp [rowsTo, List.range_succ]
theorem rowTo_len (w : Nat) (f t : List Int) (i l : Nat) : (rowTo w f t i l).length = l := by simp [rowTo]
theorem rowsTo_len (w : Nat) (f t : List Int) (n k : Nat) : (rowsTo w f t n k).length = k := by simp [rowsTo]
theorem rowsTo_sq (w : Nat) (f t : List Int) (n : Nat) : Sq n (rowsTo w f t n n) := ⟨rowsTo_len _ _ _ _ _, fun i hi => by simp [rowsTo, rowTo, List.getD, hi]⟩
theorem rowsTo_fn (w : Nat) (f t : List Int) (n : Nat) : ∀ i j, i < n → j < n → fn (rowsTo w f t n n) i j = wayF w f t i j := fun i j hi hj => by simp [fn, rowsTo, rowTo, List.getD, hi, hj]

theorem apart_bad (width : Int) (a b : Option Addr) (n m cap cap' : Nat) (f t : List Int) (w : World) (hf : IntsAt w a n f) (ht : IntsAt w b m t) (hn : n ≤ 9223372036854775807) (hm : m ≤ 9223372036854775807) (he : pathErr width f t ≠ 0) :
    Calls Try.prog 3 #[.int .i64 width, .slice a n cap, .slice b m cap'] w fun e w' => e = .returned (.bool true) ∧ Below w.heap.size w w' := by
  have hA := fun w (hf : IntsAt w a n f) (ht : IntsAt w b m t) => Apart_any width a b n m cap cap' f t w hf ht hn hm
  have hv : apartV width f t = 0 := by unfold apartV; rw [if_neg he]
  rw [hv, errV_pos he] at hA
  generalize pathErr width f t = e at *
  have HF := Lib.hid hf
  have HT := Lib.hid ht
  clear hf ht he hv
  go_enter Try.func3, Try.ntmps3
  go_wp2_with fail
  go_at_call 6
  refine (pathsFact_any _).mono ?_
  rintro e w1 ⟨rfl, hb⟩
  go_wp2_with fail
  go_at_call 7
  refine (hA _ (HF.out.call hb) (HT.out.call hb)).mono ?_
  rintro e w2 ⟨rfl, hb2⟩
  go_wp2_with fail
  go_ret
  exact ⟨rfl, below_trans hb hb2⟩

set_option maxHeartbeats 1000000 in
theorem apart_good (width : Int) (a b : Option Addr) (n cap cap' : Nat) (f t : List Int) (w : World) (hf : IntsAt w a n f) (ht : IntsAt w b n t) (he : pathErr width f t = 0) :
    Calls Try.prog 3 #[.int .i64 width, .slice a n cap, .slice b n cap'] w fun e w' => e = .returned (.bool true) ∧ Below w.heap.size w w' := by
  obtain ⟨hw0, hw4, hl0, hl3, hlt, hrf, hrt⟩ := pathErr_good he
  have hfl := hf.1
  have htl := ht.1
  have hn3 : n ≤ 3 := by omega
  have hn1 : 1 ≤ n := by omega
  have hfe := (riseFrom_good f (-1) hrf).1
  have hte := (riseFrom_good t (-1) hrt).1
  have hfb : ∀ i, i < n → 0 ≤ f.getD i 0 ∧ f.getD i 0 ≤ 6 := fun i hi => by
    have hm := hfe (f[i]'(by omega)) (List.getElem_mem _)
    have e : f.getD i 0 = f[i]'(by omega) := by simp [List.getD, show i < f.length by omega]
    rw [e]; omega
  have htb : ∀ i, i < n → 0 ≤ t.getD i 0 ∧ t.getD i 0 ≤ 6 := fun i hi => by
    have hm := hte (t[i]'(by omega)) (List.getElem_mem _)
    have e : t.getD i 0 = t[i]'(by omega) := by simp [List.getD, show i < t.length by omega]
    rw [e]; omega
  obtain ⟨bf, of, rfl, hbf, hcf⟩ := hf.some (by omega)
  obtain ⟨bt, ot, rfl, hbt, hct⟩ := ht.some (by omega)
  have hA := fun w (hf : IntsAt w (some ⟨bf, of, none⟩) n f) (ht : IntsAt w (some ⟨bt, ot, none⟩) n t) => Apart_any width (some ⟨bf, of, none⟩) (some ⟨bt, ot, none⟩) n n cap cap' f t w hf ht (by omega) (by omega)
  have hb := apart_bd width f t
  obtain ⟨wn, rfl⟩ := Int.eq_ofNat_of_zero_le hw0
  have hv : apartV wn f t = G (-1) n (wayF wn f t) := by unfold apartV; rw [if_pos he, hfl, Int.toNat_natCast]
  rw [he, errV_zero] at hA
  obtain ⟨d, hd⟩ : ∃ d, d = apartV (wn : Int) f t := ⟨_, rfl⟩
  rw [← hd] at hA hb hv
  obtain ⟨hb1, hb2⟩ := hb
  have HF := Lib.hid hf
  have HT := Lib.hid ht
  have HFB := Lib.hid hfb
  have HTB := Lib.hid htb
  have HCF := Lib.hid hcf
  have HCT := Lib.hid hct
  have HV := Lib.hid hv
  obtain ⟨ii, hi, hz0, hz1, hz2⟩ := info_parts info_int
  obtain ⟨ji, hj, hy0, hy1, hy2⟩ := info_parts info_ints
  clear hf ht hfb htb hcf hct hv hd hfe hte hrf hrt he hlt hl0 hl3 hfl htl
  go_enter Try.func3, Try.ntmps3
  go_wp2_with fail
  go_at_call 6
  refine (pathsFact_any _).mono ?_
  rintro e w1 ⟨rfl, hb⟩
  go_wp2_with fail
  go_at_call 7
  refine (hA _ (HF.out.call hb) (HT.out.call hb)).mono ?_
  rintro e w2 ⟨rfl, hbb⟩
  have hB2 := below_trans hb hbb
  clear hb hbb hA
  go_wp2_with fail
  go_loopg [10, 11] (n + 1) (fun g v i wr => ∃ k : Nat, k ≤ n ∧ n - k < g ∧ i = .int .i64 k ∧ OwnRows wr w.heap.size v (rowsTo wn f t n k) ∧ Below w.heap.size w wr)
  case atStart => exact ⟨0, by omega, by omega, rfl, by simpa [rowsTo] using OwnRows.nil w2 w.heap.size, hB2⟩
  case round =>
    obtain ⟨k, hk, hg, rfl, hown, hbel⟩ := hrel
    have hsz := hbel.size
    obtain ⟨wo, rfl⟩ : ∃ wo : World, wo = wr := ⟨_, rfl⟩
    by_cases hlt : k < n
    · obtain ⟨vs, hvs⟩ := hown.vals
      have hvl : vs.length = k := by rw [hvs.2.1, rowsTo_len]
      have HVS := Lib.hid hvs
      have hki : (k : Int) < n := by omega
      clear hvs hown
      go_wp2_with fail
      go_loopg [12, 13] (n + 1) (fun g v i wr => ∃ l : Nat, l ≤ n ∧ n - l < g ∧ i = .int .i64 l ∧ OwnInts wr wo.heap.size v (rowTo wn f t k l) ∧ Below wo.heap.size wo wr)
      case atStart => exact ⟨0, by omega, by omega, rfl, by simpa [rowTo] using OwnInts.nil wo _, Below.refl _ _⟩
      case round =>
        obtain ⟨l, hl, hg2, rfl, hown, hbel2⟩ := hrel
        by_cases hlt2 : l < n
        · have hbw : Below w.heap.size w wr := below_trans hbel hbel2
          have hli : (l : Int) < n := by omega
          have hl0 : (0 : Int) ≤ l := by omega
          have hk0 : (0 : Int) ≤ k := by omega
          have hcf := HCF.out k hlt
          have hct := HCT.out l hlt2
          rw [← hbw.cell (p := ⟨bf, of + k, none⟩) hbf] at hcf
          rw [← hbw.cell (p := ⟨bt, ot + l, none⟩) hbt] at hct
          obtain ⟨fi1, fi2⟩ := HFB.out k hlt
          obtain ⟨tj1, tj2⟩ := HTB.out l hlt2
          have hw := way_at (w := wn) (by omega) fi1 fi2 tj1 tj2
          obtain ⟨fi, hfi⟩ : ∃ q, q = f.getD k 0 := ⟨_, rfl⟩
          obtain ⟨tj, htj⟩ : ∃ q, q = t.getD l 0 := ⟨_, rfl⟩
          rw [← hfi] at hcf fi1 fi2 hw
          rw [← htj] at hct tj1 tj2 hw
          have hval : waysZ wn (tj - fi) = wayF wn f t k l := by rw [hfi, htj]; rfl
          have HVAL := Lib.hid hval
          have HOW := Lib.hid hown
          have hlen := Lib.hid (rowTo_len wn f t k l)
          clear hval hfi htj hown
          by_cases hle : fi ≤ tj
          · obtain ⟨w1, w2, w3⟩ := hw.2 hle
            have hwy := fun W => Ways_any (wn : Int) (tj - fi) W
            rw [w3, errV_zero, show waysV (wn : Int) (tj - fi) = waysZ wn (tj - fi) from by unfold waysV; rw [if_pos w3, Int.toNat_natCast]] at hwy
            obtain ⟨x, hx⟩ : ∃ x, x = waysZ wn (tj - fi) := ⟨_, rfl⟩
            rw [← hx] at hwy w1 w2
            have HX := Lib.hid hx
            have hin := inB_yes (n := x) (lo := 1) (hi := 300) w1 (by omega)
            have hww : IntKind.i64.wrap (tj - fi) = tj - fi := IntWalk.i64_in _ (by omega)
            clear hw w3 hx
            have zf := World.block_lt_of_cell? _ _ hcf
            have zt := World.block_lt_of_cell? _ _ hct
            dsimp only at zf zt
            go_wp2_with fail
            refine wp_region_quiet (C := Cls wr.heap.size wr) (by kernel_rfl) (by kernel_rfl) Cls.start ?_
            repeat
              (refine wpQuiet_step (fun K hK => ?_)
               go_simp
               first
                 | (refine hK _ ?_; clear hK K)
                 | (apply Exists.intro
                    refine ⟨fun w' hC => ?_, hK _ ?_⟩
                    · (obtain ⟨hr, hr2⟩ := hC.rules
                       first
                         | (fail)
                         | (go_simp; done)
                         | (go_simp; rfl))
                    clear hK K))
            refine wpQuiet_nil ?_
            intro W3 hW3
            obtain ⟨hcc, hff⟩ := hW3.rules
            go_wp2_with fail
            refine wp_region_quiet (C := Cls wr.heap.size W3) (by kernel_rfl) (by kernel_rfl) Cls.start ?_
            repeat
              (refine wpQuiet_step (fun K hK => ?_)
               go_simp
               first
                 | (refine hK _ ?_; clear hK K)
                 | (apply Exists.intro
                    refine ⟨fun w' hC => ?_, hK _ ?_⟩
                    · (obtain ⟨hr, hr2⟩ := hC.rules
                       first
                         | (go_at_call 8; exact Cls.call hC hW3.size (hwy _))
                         | (go_simp; done)
                         | (go_simp; rfl))
                    clear hK K))
            refine wpQuiet_nil ?_
            intro W4 hW4
            have hB4 : Below wo.heap.size wo W4 := hbel2.trans ((hW3.trans hW4).mono hbel2.size)
            have HOW4 := Lib.hid (HOW.out.call (hW3.trans hW4))
            clear hcc hff
            go_wp2_with fail
            go_at_call 9
            refine (in_any _ _ _ _).mono ?_
            rintro e w4 ⟨rfl, rfl⟩
            rw [hin]
            go_wp2_with (at_builtin; refine wpList_append_own1 (o := ⟨some 77, _, _, _, _, _⟩) rfl _ _ 22 rfl wo.heap.size 3 ii (.int .i64 0) 8 Try.underlying22 hi hz0 hz1 hz2 rfl _ (rowTo wn f t k l).length ((rowTo wn f t k l).map (Value.int .i64)) rfl (World.ownsRow.alloc HOW4.out _) (some ⟨W4.heap.size, 0, none⟩) 1 1 [.int .i64 x] rfl rfl (fun h => by cases h) (one_new _ _ _) (one_int _ _) (by rw [hlen.out]; unfold maxLen; omega) (by rw [hlen.out]; omega) (le_alloc hB4.size _) ?_; intro v2 w2 hown2 hgrow2)
            have hs2 := OwnInts.snoc rfl hown2
            rw [HX.out, HVAL.out, ← rowTo_succ] at hs2
            have hb2 := own_grow hB4 HOW4.out hgrow2
            go_roundg (n - l)
            case measure => omega
            case rel => exact ⟨l + 1, by omega, by omega, by go_num, hs2, hb2⟩
          · have hx := hw.1 (by omega)
            have hlt' : tj < fi := by omega
            have zf := World.block_lt_of_cell? _ _ hcf
            have zt := World.block_lt_of_cell? _ _ hct
            dsimp only at zf zt
            clear hw
            go_wp2_with fail
            refine wp_region_quiet (C := Cls wr.heap.size wr) (by kernel_rfl) (by kernel_rfl) Cls.start ?_
            repeat
              (refine wpQuiet_step (fun K hK => ?_)
               go_simp
               first
                 | (refine hK _ ?_; clear hK K)
                 | (apply Exists.intro
                    refine ⟨fun w' hC => ?_, hK _ ?_⟩
                    · (obtain ⟨hr, hr2⟩ := hC.rules
                       first
                         | (fail)
                         | (go_simp; done)
                         | (go_simp; rfl))
                    clear hK K))
            refine wpQuiet_nil ?_
            intro W3 hW3
            have hB4 : Below wo.heap.size wo W3 := hbel2.trans (hW3.mono hbel2.size)
            have HOW4 := Lib.hid (HOW.out.call hW3)
            have HX0 := Lib.hid hx
            go_wp2_with (at_builtin; refine wpList_append_own1 (o := ⟨some 77, _, _, _, _, _⟩) rfl _ _ 22 rfl wo.heap.size 3 ii (.int .i64 0) 8 Try.underlying22 hi hz0 hz1 hz2 rfl _ (rowTo wn f t k l).length ((rowTo wn f t k l).map (Value.int .i64)) rfl (World.ownsRow.alloc HOW4.out _) (some ⟨W3.heap.size, 0, none⟩) 1 1 [.int .i64 0] rfl rfl (fun h => by cases h) (one_new _ _ _) (one_int _ _) (by rw [hlen.out]; unfold maxLen; omega) (by rw [hlen.out]; omega) (le_alloc hB4.size _) ?_; intro v2 w2 hown2 hgrow2)
            have hs2 := OwnInts.snoc rfl hown2
            rw [← HX0.out, HVAL.out, ← rowTo_succ] at hs2
            have hb2 := own_grow hB4 HOW4.out hgrow2
            go_roundg (n - l)
            case measure => omega
            case rel => exact ⟨l + 1, by omega, by omega, by go_num, hs2, hb2⟩
        · obtain rfl : l = n := by omega
          have HOW := Lib.hid hown
          obtain ⟨ra2, ln2, rc2, rfl⟩ := OwnInts.isSlice hown
          clear hown
          go_wp2_with (at_builtin; refine wpList_append_own1 (o := ⟨some 81, _, _, _, _, _⟩) rfl _ _ 28 rfl w.heap.size 22 ji (.slice none 0 0) 24 Try.underlying28 hj hy0 hy1 hy2 rfl _ vs.length vs rfl ((HVS.out.1.call hbel2).alloc _) (some ⟨wr.heap.size, 0, none⟩) 1 1 [.slice ra2 ln2 rc2] rfl rfl (fun h => by cases h) (one_new _ _ _) (one_slice _ _ _) (by unfold maxLen; omega) (by omega) (le_alloc (Nat.le_trans hsz hbel2.size) _) ?_; intro v3 w3 hown3 hgrow3)
          have hsn := OwnRowsV.snoc HVS.out hsz hbel2 HOW.out hown3 hgrow3
          rw [← rowsTo_succ] at hsn
          have hbel3 : Below w.heap.size w w3 := hbel.trans ((hbel2.mono hsz).trans (((Below.refl w.heap.size _).alloc (Nat.le_trans hsz hbel2.size) _).trans (grown_below hgrow3 (le_alloc (Nat.le_trans hsz hbel2.size) _) (fun k hk => (World.ownsRow.lt HVS.out.1 k hk).1))))
          go_roundg (l - k)
          case measure => omega
          case rel => exact ⟨k + 1, by omega, by omega, by go_num, hsn, hbel3⟩
    · obtain rfl : k = n := by omega
      obtain ⟨a2, cap2, rfl, hc1, hc2, hra⟩ := hown.rowsAt
      rw [rowsTo_len] at hc1 hra ⊢
      have hD := RDet_any k a2 cap2 _ wo (by omega) hc1 (rowsTo_sq wn f t k) hra
      have hdv : wrap64 (detN k (rowsTo wn f t k k)) = d := by
        rw [detN_G, G_congr (-1) k (rowsTo_fn wn f t k), ← HV.out]
        exact wrap_in (by omega) (by omega)
      rw [hdv] at hD
      clear hra hown hdv
      go_wp2_with fail
      go_at_call 10
      refine hD.mono ?_
      rintro e w5 ⟨rfl, hb5⟩
      go_wp2_with fail
      go_ret
      exact ⟨rfl, below_trans hbel hb5⟩

theorem PathsApart_any (width : Int) (a : Option Addr) (n cap : Nat) (f : List Int) {w1 : World} (hf : IntsAt w1 a n f) (hc1 : n ≤ cap) (hm1 : cap ≤ 9223372036854775807 ∧ (a = none → cap = 0)) (b : Option Addr) (m cap' : Nat) (t : List Int) {w2 : World} (ht : IntsAt w2 b m t) (hc2 : m ≤ cap') (hm2 : cap' ≤ 9223372036854775807 ∧ (b = none → cap' = 0)) (w : World) (e1 : w1 = w) (e2 : w2 = w) :
    Calls Try.prog 3 #[.int .i64 width, .slice a n cap, .slice b m cap'] w fun e w' => e = .returned (.bool true) ∧ Below w.heap.size w w' := by
  subst e1
  subst e2
  by_cases he : pathErr width f t = 0
  · obtain ⟨_, _, _, _, hl, _, _⟩ := pathErr_good he
    have h1 := hf.1
    have h2 := ht.1
    obtain rfl : m = n := by omega
    exact apart_good width a b m cap cap' f t w2 hf ht he
  · exact apart_bad width a b n m cap cap' f t w2 hf ht (by omega) (by omega) he
theorem frame_own : ownKnob Try.prog.godebug = none := by kernel_rfl
theorem frame_laid : laidOutB Try.prog = true := by kernel_rfl
set_option maxRecDepth 100000 in
theorem frame_lifted (os : Os) (started : os.Started) (H : Type) (enc : TypeId × Value → H) :
    ReturnsInHanded {} Try.checked os 3 .any (Rows.pathsApartSpec.pre6 enc Try.prog Try.f3 Rows.pathsApartRow.domain false) (Rows.pathsApartSpec.post enc Try.prog Try.f3 false true false false) := by
  refine returnsInHanded_of_change (C := Try.checked) frame_own started (by kernel_rfl) Try.func3
    (ChangeSpec.witness6 (enc := enc) (C := Try.checked) false ⟨#[], #[.int .i64 0, .slice none 0 0, .slice none 0 0], []⟩ 8 (by kernel_rfl) (by kernel_rfl) (by kernel_rfl) (by kernel_rfl)) ?_
  intro W base args ds gs before hval0 hW hcnd _
  have hval : ∀ (j : Nat) t v, Try.f3.params[j]? = some t → args[j]? = some v → Value.okWide Try.prog W .any base t v := hval0
  have hW' := hW
  obtain ⟨p, q, hA0, hV, rfl, hfz, hnd⟩ := hW
  have hA : DataW.TrodAll enc Try.prog W 0 (fun _ => true) true Try.f3.params.toList args.toList ds p := hA0
  rw [Try.params3] at hA hval
  obtain ⟨v0, vs0, d0, ds0, p0, q0, hargs, rfl, rfl, h0, r0⟩ := trodAll_cons hA
  obtain ⟨v1, vs1, d1, ds1, p1, q1, rfl, rfl, rfl, h1, r1⟩ := trodAll_cons r0
  obtain ⟨v2, vs2, d2, ds2, p2, q2, rfl, rfl, rfl, h2, r2⟩ := trodAll_cons r1
  obtain ⟨rfl, rfl, rfl⟩ := trodAll_nil r2
  obtain rfl : args = #[v0, v1, v2] := by cases args; simp_all
  obtain ⟨rfl, rfl⟩ := trodVars_none hV
  have k0 := h0
  have lt0 : ∀ x ∈ p0, x.block < W.heap.size := by obtain ⟨m, hm⟩ := k0; exact DataW.trod_lt m _ _ _ hm
  obtain ⟨a0, rfl, rfl, rfl, w0⟩ := open_int Try.underlying3 (hval 0 3 v0 rfl rfl) h0
  have k1 := h1
  have lt1 : ∀ x ∈ p1, x.block < W.heap.size := by obtain ⟨m, hm⟩ := k1; exact DataW.trod_lt m _ _ _ hm
  obtain ⟨a1, len1, cap1, rfl⟩ := okWide_slice Try.underlying22 (hval 1 22 v1 rfl rfl)
  obtain ⟨xs1, hxs1, hcap1, hmax1⟩ := open_intsAt Try.underlying22 Try.underlying3 (by kernel_rfl) h1
  have k2 := h2
  have lt2 : ∀ x ∈ p2, x.block < W.heap.size := by obtain ⟨m, hm⟩ := k2; exact DataW.trod_lt m _ _ _ hm
  obtain ⟨a2, len2, cap2, rfl⟩ := okWide_slice Try.underlying22 (hval 2 22 v2 rfl rfl)
  obtain ⟨xs2, hxs2, hcap2, hmax2⟩ := open_intsAt Try.underlying22 Try.underlying3 (by kernel_rfl) h2
  clear hA0 hval0
  refine (PathsApart_any a0 a1 len1 cap1 xs1 hxs1 hcap1 hmax1 a2 len2 cap2 xs2 hxs2 hcap2 hmax2 W rfl rfl).mono fun e W' ⟨he, bel⟩ => ?_
  subst he
  exact ⟨_, rfl, _, _, _, [], _, [], hW', trodAll_mk1 (shut_bool Try.underlying4 _), (trodAll_cons_mk (Below.trod frame_laid (by kernel_rfl) (of_decide_eq_true (by kernel_rfl)) k0 bel lt0) (trodAll_cons_mk (Below.trod frame_laid (by kernel_rfl) (of_decide_eq_true (by kernel_rfl)) k1 bel lt1) (trodAll_cons_mk (Below.trod frame_laid (by kernel_rfl) (of_decide_eq_true (by kernel_rfl)) k2 bel lt2) trodAll_mk0))), rfl, bel.frame _, fun h => by cases h⟩

theorem PathsApart_over : Rows.pathsApartRow.holds Try.pinned (OpenSpec.ofChange Rows.pathsApartSpec) :=
  OpenClaim.holds_of_wide 3 Try.f3 rfl rfl rfl rfl rfl rfl rfl ⟨rfl, rfl, rfl, rfl, rfl⟩ rfl rfl rfl rfl rfl (by kernel_rfl) Try.func3 (by kernel_rfl)
    (of_decide_eq_true (by kernel_rfl)) (by unfold Func.isWrapper; first | (rw [if_pos (by decide +kernel)]; kernel_rfl) | (rw [if_neg (by decide +kernel)]; exact ⟨rfl, rfl⟩))
    (fun os started H enc _ => frame_lifted os started H enc)

/-- THE STATEMENT -/
theorem PathsApart_holds : Rows.PathsApartSaid := PathsApart_over
end Go.Proofs.Ytbafpiepadhmdaa.PathsApartP
