/- It proves that rankmerelaw4.HermiteHas, called with any list of lists of integers, any two integers and any list of integers, returns true, and leaves its arguments as they were. There are no conditions. -/
import Derived.Test.YtkoheljfbpjbaaaHerFact
import Derived.Test.YtkoheljfbpjbaaaRMatrix
import Derived.Test.YtkoheljfbpjbaaaLawIn
import Derived.Test.YtkoheljfbpjbaaaOpen
import Derived.StillTailTactics
import Derived.Deep.RegionHeld3
import Derived.Deep.AppendLies
import Derived.ProofKit
import Derived.OpenShut
import Derived.ShutString
import Derived.ChangeOld
import Derived.Lib.SmallJoins
namespace Go.Proofs.Ytkoheljfbpjbaaa.HermiteHasP
open Go.ChangeShapes Go.WideShapes Go.ChangeAt Go.RowKit Go.Joins
open Go.ChangeMaps (open_string shut_string)
set_option linter.unusedVariables false
set_option linter.unusedSimpArgs false

theorem has_bad (a : Option Addr) (n cap : Nat) (rows : List (List Int)) (i j : Int) (ax : Option Addr) (m capx : Nat) (w : World) (hr : RowsAt w a n rows) (hcap : n ≤ cap) (hs : Small n rows) (he : herErr rows ≠ 0) :
    Calls Try.prog 4 #[.slice a n cap, .int .i64 i, .int .i64 j, .slice ax m capx] w fun e w' => e = .returned (.bool true) ∧ Below w.heap.size w w' := by
  have hF := fun w (h : RowsAt w a n rows) => FormFn_bad a n cap rows w h hcap hs he
  rw [errV_pos he] at hF
  generalize herErr rows = e at *
  have HR := Lib.hid hr
  clear hr he hs
  go_enter Try.func4, Try.ntmps4
  go_wp2_with fail
  go_at_call 10
  refine (hermiteFact_any _).mono ?_
  rintro e w1 ⟨rfl, hb⟩
  go_wp2_with fail
  go_at_call 11
  refine (hF _ (HR.out.call hb)).mono ?_
  rintro e w2 ⟨rfl, hb2⟩
  go_wp2_with fail
  go_ret
  exact ⟨rfl, below_trans hb hb2⟩

/-- twice row p less row q -/
def sumL (rows : List (List Int)) (p q l : Nat) : List Int := (List.range l).map fun c => 2 * fn rows p c - fn rows q c
theorem sumL_succ (rows : List (List Int)) (p q l : Nat) : sumL rows p q (l + 1) = sumL rows p q l ++ [2 * fn rows p l - fn rows q l] := by simp [sumL, List.range_succ]
theorem sumL_len (rows : List (List Int)) (p q l : Nat) : (sumL rows p q l).length = l := by simp [sumL]
theorem sumL_at (rows : List (List Int)) (p q l : Nat) {c : Nat} (hc : c < l) : fnL (sumL rows p q l) c = 2 * fn rows p c - fn rows q c := by simp [fnL, sumL, List.getD, hc]
/-- x and that -/
def moreL (rows : List (List Int)) (p q n : Nat) (x : List Int) (l : Nat) : List Int := (List.range l).map fun c => fnL x c + fnL (sumL rows p q n) c
theorem moreL_succ (rows : List (List Int)) (p q n : Nat) (x : List Int) (l : Nat) : moreL rows p q n x (l + 1) = moreL rows p q n x l ++ [fnL x l + fnL (sumL rows p q n) l] := by simp [moreL, List.range_succ]
theorem moreL_len (rows : List (List Int)) (p q n : Nat) (x : List Int) (l : Nat) : (moreL rows p q n x l).length = l := by simp [moreL]
theorem moreL_at (rows : List (List Int)) (p q n : Nat) (x : List Int) (l : Nat) {c : Nat} (hc : c < l) : fnL (moreL rows p q n x l) c = fnL x c + fnL (sumL rows p q n) c := by simp [fnL, moreL, List.getD, hc]
theorem has_sum {n p q : Nat} {rows : List (List Int)} (hk : HerOk n rows) (he : herErr rows = 0) (hp : p < n) (hq : q < n) : hasErr rows (sumL rows p q n) = 0 ∧ hasV rows (sumL rows p q n) = true := by
  have h1 : hasErr rows (sumL rows p q n) = 0 := by
    unfold hasErr
    rw [if_neg (by simp [he]), if_neg (by rw [sumL_len, hk.len]; simp), if_neg]
    intro h
    obtain ⟨x, hx, ho⟩ := List.any_eq_true.1 h
    simp only [sumL, List.mem_map] at hx
    obtain ⟨c, _, rfl⟩ := hx
    have e1 := hk.ent p c
    have e2 := hk.ent q c
    simp [outB] at ho
    omega
  refine ⟨h1, ?_⟩
  unfold hasV
  rw [if_pos h1, hk.len]
  refine hasB_true (lat_congr (lat_lin (lat_row (fn rows) hp) (lat_row (fn rows) hq) 2 (-1)) (fun _ _ _ _ => rfl) (fun c hc => ?_))
  rw [sumL_at rows p q n hc]
  show 2 * fn rows p c + -1 * fn rows q c = _
  omega
theorem has_more {n p q : Nat} {rows : List (List Int)} {x : List Int} (hk : HerOk n rows) (he : herErr rows = 0) (hp : p < n) (hq : q < n) (hx : hasErr rows x = 0) (hm : hasErr rows (moreL rows p q n x n) = 0) : hasV rows x = hasV rows (moreL rows p q n x n) := by
  unfold hasV
  rw [if_pos hx, if_pos hm, hk.len]
  have hs : Lat n (fn rows) (fnL (sumL rows p q n)) := by
    refine lat_congr (lat_lin (lat_row (fn rows) hp) (lat_row (fn rows) hq) 2 (-1)) (fun _ _ _ _ => rfl) (fun c hc => ?_)
    rw [sumL_at rows p q n hc]
    show 2 * fn rows p c + -1 * fn rows q c = _
    omega
  refine hasB_iff ⟨fun h => ?_, fun h => ?_⟩
  · refine lat_congr (lat_lin h hs 1 1) (fun _ _ _ _ => rfl) (fun c hc => ?_)
    rw [moreL_at _ _ _ _ _ _ hc]
    show 1 * _ + 1 * _ = _
    omega
  · refine lat_congr (lat_lin h hs 1 (-1)) (fun _ _ _ _ => rfl) (fun c hc => ?_)
    rw [moreL_at _ _ _ _ _ _ hc]
    show 1 * (_ + _) + -1 * _ = _
    omega

theorem has_len {n m : Nat} {rows : List (List Int)} {x : List Int} (hl : x.length = m) (hk : HerOk n rows) (he : herErr rows = 0) (hx : hasErr rows x = 0) : m = n ∧ ∀ j, j < n → (fnL x j).natAbs ≤ 100 := by
  have hrl := hk.len
  unfold hasErr at hx
  rw [if_neg (by simp [he])] at hx
  by_cases hml : x.length = rows.length
  · rw [if_neg (by omega)] at hx
    refine ⟨by omega, fun j hj => ?_⟩
    have hm : x[j]'(by omega) ∈ x := List.getElem_mem _
    have e : fnL x j = x[j]'(by omega) := by simp [fnL, List.getD, show j < x.length by omega]
    have ho : outB (-100) 100 (x[j]'(by omega)) = false := by
      cases ho : outB (-100) 100 (x[j]'(by omega))
      · rfl
      · have : anyOut (-100) 100 x = true := List.any_eq_true.2 ⟨_, hm, ho⟩
        rw [if_pos this] at hx; cases hx
    simp [outB] at ho
    rw [e]; omega
  · rw [if_pos hml] at hx; cases hx
set_option maxRecDepth 100000 in
set_option maxHeartbeats 2000000 in
theorem has_good (a : Option Addr) (n cap : Nat) (rows : List (List Int)) (i j : Int) (ax : Option Addr) (m capx : Nat) (x : List Int) (w : World) (hr : RowsAt w a n rows) (hx : IntsAt w ax m x) (hcap : n ≤ cap) (hs : Small n rows) (hm : m ≤ 9223372036854775807) (he : herErr rows = 0) :
    Calls Try.prog 4 #[.slice a n cap, .int .i64 i, .int .i64 j, .slice ax m capx] w fun e w' => e = .returned (.bool true) ∧ Below w.heap.size w w' := by
  have hk := herErr_good hr.1 he
  have hF := Lib.hid (fun w (h : RowsAt w a n rows) => FormFn_good a n cap rows w h hcap hs he)
  have hn1 := hk.pos
  have hn3 := hk.le
  obtain ⟨b, off, rfl, hb0⟩ := hr.some hn1
  have HHAS := Lib.hid (fun ay my capy y W (h : RowsAt W (some ⟨b, off, none⟩) n rows) (h2 : IntsAt W ay my y) (h3 : my ≤ 9223372036854775807) => Has_any (some ⟨b, off, none⟩) ay n cap my capy rows y W h h2 hcap hs h3)
  have HR := Lib.hid hr
  have HX := Lib.hid hx
  have HK := Lib.hid hk
  have HE := Lib.hid he
  obtain ⟨ii, hi, hz0, hz1, hz2⟩ := info_parts info_int
  clear hr hs he hk hx
  go_enter Try.func4, Try.ntmps4
  go_wp2_with fail
  go_at_call 10
  refine (hermiteFact_any _).mono ?_
  rintro e w1 ⟨rfl, hb⟩
  go_wp2_with fail
  go_at_call 11
  refine (hF.out _ (HR.out.call hb)).mono ?_
  rintro e w2 ⟨⟨G', T, rfl, hT1, hT2, hT3⟩, hb2⟩
  have hB2 := below_trans hb hb2
  clear hb hb2 hF hT1 hT2 hT3
  go_wp2_with fail
  go_at_call 12
  refine (in_any _ _ _ _).mono ?_
  rintro e w4 ⟨rfl, rfl⟩
  cases hi1 : inB i 0 ((n : Int) - 1)
  · go_wp2_with fail
    go_ret
    exact ⟨rfl, hB2⟩
  · have hi2 := inB_true hi1
    obtain ⟨p, rfl⟩ := Int.eq_ofNat_of_zero_le hi2.1
    have hp : p < n := by omega
    go_wp2_with fail
    go_at_call 12
    refine (in_any _ _ _ _).mono ?_
    rintro e w4 ⟨rfl, rfl⟩
    cases hj1 : inB j 0 ((n : Int) - 1)
    · go_wp2_with fail
      go_ret
      exact ⟨rfl, hB2⟩
    · have hj2 := inB_true hj1
      obtain ⟨q, rfl⟩ := Int.eq_ofNat_of_zero_le hj2.1
      have hq : q < n := by omega
      clear hi1 hi2 hj1 hj2
      go_wp2_with fail
      go_loopg [13, 15] (n + 1) (fun g v i wr => ∃ l : Nat, l ≤ n ∧ n - l < g ∧ i = .int .i64 l ∧ OwnInts wr w.heap.size v (sumL rows p q l) ∧ Below w.heap.size w wr)
      case atStart => exact ⟨0, by omega, by omega, rfl, by simpa [sumL] using OwnInts.nil w2 _, hB2⟩
      case round =>
        obtain ⟨l, hl, hg, rfl, hown, hbel⟩ := hrel
        clear hB2
        have HOW := Lib.hid hown
        clear hown
        by_cases hlt : l < n
        · obtain ⟨g1, o1, r1, c1, x1, z1⟩ := HR.out.at HK.out.sq hp hlt
          obtain ⟨g2, o2, r2, c2, x2, z2⟩ := HR.out.at HK.out.sq hq hlt
          have b1 := HK.out.ent p l
          have b2 := HK.out.ent q l
          obtain ⟨s, hs⟩ : ∃ s, s = fn rows p l := ⟨_, rfl⟩
          obtain ⟨t, ht⟩ : ∃ t, t = fn rows q l := ⟨_, rfl⟩
          rw [← hs] at x1 b1
          rw [← ht] at x2 b2
          have HSV := Lib.hid (show 2 * s - t = 2 * fn rows p l - fn rows q l by rw [hs, ht])
          have hlen := Lib.hid (sumL_len rows p q l)
          have hl0 : (0 : Int) ≤ l := by omega
          have hl1 : (l : Int) < n := by omega
          have hp0 : (0 : Int) ≤ p := by omega
          have hp1 : (p : Int) < n := by omega
          have hq0 : (0 : Int) ≤ q := by omega
          have hq1 : (q : Int) < n := by omega
          have hw1 : IntKind.i64.wrap (2 * s) = 2 * s := IntWalk.i64_in _ (by omega)
          have hw2 : IntKind.i64.wrap (2 * s - t) = 2 * s - t := IntWalk.i64_in _ (by omega)
          have HSS := Lib.hid (show ∀ W, Below w.heap.size w W → W.cell? ⟨b, off + p, none⟩ = some (.slice (some ⟨g1, o1, none⟩) n r1) ∧ W.cell? ⟨g1, o1 + l, none⟩ = some (.int .i64 s) ∧ W.cell? ⟨b, off + q, none⟩ = some (.slice (some ⟨g2, o2, none⟩) n r2) ∧ W.cell? ⟨g2, o2 + l, none⟩ = some (.int .i64 t) from fun W hb =>
            ⟨by rw [hb.cell (p := ⟨b, off + p, none⟩) hb0]; exact c1, by rw [hb.cell (p := ⟨g1, o1 + l, none⟩) z1]; exact x1, by rw [hb.cell (p := ⟨b, off + q, none⟩) hb0]; exact c2, by rw [hb.cell (p := ⟨g2, o2 + l, none⟩) z2]; exact x2⟩)
          have hd : Below w.heap.size w wr.drew := hbel.trans Cls.start
          have HOWd := Lib.hid (HOW.out.call (Cls.start (N := wr.heap.size)))
          obtain ⟨k1, k2, k3, k4⟩ := HSS.out wr hbel
          have hownA := OwnInts.call (show OwnInts (wr.alloc (.cells #[.int .i64 (2 * s - t)] 3)) w.heap.size _ _ from World.ownsRow.alloc HOW.out _) (Cls.start (N := (wr.alloc (.cells #[.int .i64 (2 * s - t)] 3)).heap.size))
          have hnewA : ∀ (j : Nat) (u : Value), [Value.int .i64 (2 * s - t)][j]? = some u → (wr.alloc (.cells #[.int .i64 (2 * s - t)] 3)).drew.cell? ((⟨wr.heap.size, 0, none⟩ : Addr).add j) = some u := fun j u h => by
            obtain ⟨_, e, h2⟩ := one_new wr (.int .i64 (2 * s - t)) 3 j u h
            cases e
            exact h2
          have hbaseA : w.heap.size ≤ (wr.alloc (.cells #[.int .i64 (2 * s - t)] 3)).drew.heap.size := le_alloc hbel.size _
          have h63A : (sumL rows p q l).length + 1 ≤ maxLen := by rw [hlen.out]; unfold maxLen; omega
          have hbyA : ((sumL rows p q l).length + 1) * 8 ≤ 140737488355328 := by rw [hlen.out]; omega
          have HA := Lib.hid hownA
          have HNA := Lib.hid hnewA
          have HBA := Lib.hid hbaseA
          have H6A := Lib.hid h63A
          have H8A := Lib.hid hbyA
          clear hownA hnewA hbaseA h63A hbyA
          clear hs ht c1 c2 x1 x2
          go_wp2_with fail
          go_region_held3 (fun w' => w'.cell? ⟨b, off + p, none⟩ = some (.slice (some ⟨g1, o1, none⟩) n r1) ∧ w'.cell? ⟨g1, o1 + l, none⟩ = some (.int .i64 s) ∧ w'.cell? ⟨b, off + q, none⟩ = some (.slice (some ⟨g2, o2, none⟩) n r2) ∧ w'.cell? ⟨g2, o2 + l, none⟩ = some (.int .i64 t))
            (first | exact HSS.out _ hd | exact HSS.out _ (hbel.alloc hbel.size _) | exact HSS.out _ ((hbel.alloc hbel.size _).trans Cls.start) | exact HSS.out _ (((hbel.alloc hbel.size _).trans Cls.start).trans (grown_below hgrow2 (le_alloc hbel.size _) (fun k hk => (HOW.out.lt k hk).1))))
            ((refine step_append_lies _ (by rfl) _ _ _ (by rfl) w.heap.size 3 ii (.int .i64 0) 1 8 Try.underlying28 hi hz0 hz1 hz2 (by rfl) (by decide) _ (sumL rows p q l).length ((sumL rows p q l).map (Value.int .i64)) (by rfl) HA.out ⟨wr.heap.size, 0, none⟩ 1 1 [.int .i64 (2 * s - t)] (by rfl) (by rfl) HNA.out (one_int _ _) (by decide) H6A.out H8A.out HBA.out _ rfl ?_; intro g2' cap2' w3 hown2 hgrow2 hat2 hlt2))
          have hs2 := OwnInts.snoc rfl hown2
          rw [HSV.out, ← sumL_succ] at hs2
          have hb3 : Below w.heap.size w w3 := ((hbel.alloc hbel.size _).trans Cls.start).trans (grown_below hgrow2 (le_alloc hbel.size _) (fun k hk => (HOW.out.lt k hk).1))
          go_wp2_with fail
          go_roundg (n - l)
          case measure => omega
          case rel => exact ⟨l + 1, by omega, by omega, by go_num, hs2, hb3⟩
        · obtain rfl : l = n := by omega
          obtain ⟨gs, caps, rfl, hgs1, hgs2⟩ := HOW.out.block (by rw [sumL_len]; omega)
          rw [sumL_len] at HOW ⊢
          have hsl := sumL_len rows p q l
          have hsr : IntsAt wr (some ⟨gs, 0, none⟩) l (sumL rows p q l) := ⟨hsl, fun c hc => ⟨gs, 0, rfl, by rw [Nat.zero_add]; exact (HOW.out.put.2 c hc).1⟩⟩
          have HSR := Lib.hid hsr
          obtain ⟨es, vs⟩ := has_sum HK.out HE.out hp hq
          have h1 := HHAS.out (some ⟨gs, 0, none⟩) l caps (sumL rows p q l) wr (HR.out.call hbel) hsr (by omega)
          rw [es, vs, errV_zero] at h1
          clear hsr es vs hsl
          go_wp2_with fail
          go_at_call 15
          refine h1.mono ?_
          rintro e w5 ⟨rfl, hb5⟩
          have hB5 := below_trans hbel hb5
          have HOW5 := Lib.hid (HOW.out.call hb5)
          have h2 := HHAS.out ax m capx x w5 (HR.out.call hB5) (HX.out.call hB5) hm
          by_cases hx0 : hasErr rows x = 0
          · rw [hx0, errV_zero] at h2
            obtain ⟨hml, hxb⟩ := has_len HX.out.1 HK.out HE.out hx0
            obtain rfl : m = l := hml
            obtain ⟨bx, ox, rfl, hbx, hcx⟩ := HX.out.some hn1
            have HCX := Lib.hid hcx
            have HXB := Lib.hid hxb
            have HX0 := Lib.hid hx0
            have hv := has_more HK.out HE.out hp hq hx0
            have HV := Lib.hid hv
            obtain ⟨vx, hvx⟩ : ∃ v, v = hasV rows x := ⟨_, rfl⟩
            rw [← hvx] at h2
            have HVX := Lib.hid hvx
            have h2' := h2
            clear hcx hxb hx0 hv hvx h1 h2 hb5 hgs1 hgs2
            go_wp2_with fail
            go_at_call 15
            refine h2'.mono ?_
            rintro e w6 ⟨rfl, hb6⟩
            have hB6 := below_trans hB5 hb6
            have HOW6 := Lib.hid (HOW5.out.call hb6)
            clear h2' hb6 HOW5
            go_wp2_with fail
            go_loopg [14, 18] (m + 1) (fun g v i wr => ∃ l : Nat, l ≤ m ∧ m - l < g ∧ i = .int .i64 l ∧ OwnInts wr w6.heap.size v (moreL rows p q m x l) ∧ Below w6.heap.size w6 wr)
            case atStart => exact ⟨0, by omega, by omega, rfl, by simpa [moreL] using OwnInts.nil w6 _, Below.refl _ _⟩
            case round =>
              obtain ⟨l, hl, hg, rfl, hown, hbel⟩ := hrel
              have HOM := Lib.hid hown
              clear hown
              by_cases hlt : l < m
              · have x1 := (HOW6.out.put.2 l hlt).1
                have x2 := HCX.out l hlt
                have b1 := sumL_at rows p q m hlt
                have b2 := HK.out.ent p l
                have b3 := HK.out.ent q l
                have b4 := HXB.out l hlt
                obtain ⟨s, hs⟩ : ∃ s, s = fnL x l := ⟨_, rfl⟩
                obtain ⟨t, ht⟩ : ∃ t, t = fnL (sumL rows p q m) l := ⟨_, rfl⟩
                have x2 : w.cell? ⟨bx, ox + l, none⟩ = some (.int .i64 s) := by rw [hs]; exact x2
                rw [← ht] at x1 b1
                rw [← hs] at b4
                have HSV := Lib.hid (show s + t = fnL x l + fnL (sumL rows p q m) l by rw [hs, ht])
                have hlen := Lib.hid (moreL_len rows p q m x l)
                have hl0 : (0 : Int) ≤ l := by omega
                have hl1 : (l : Int) < m := by omega
                have hw1 : IntKind.i64.wrap (s + t) = s + t := IntWalk.i64_in _ (by omega)
                have HSS := Lib.hid (show ∀ W, Below w6.heap.size w6 W → W.cell? ⟨bx, ox + l, none⟩ = some (.int .i64 s) ∧ W.cell? ⟨gs, l, none⟩ = some (.int .i64 t) from fun W hb =>
                  ⟨by rw [hb.cell (p := ⟨bx, ox + l, none⟩) (Nat.lt_of_lt_of_le hbx hB6.size), hB6.cell (p := ⟨bx, ox + l, none⟩) hbx]; exact x2, by rw [hb.cell (p := ⟨gs, l, none⟩) (World.block_lt_of_cell? _ _ x1)]; exact x1⟩)
                obtain ⟨k1, k2⟩ := HSS.out wr hbel
                have hownA := OwnInts.call (show OwnInts (wr.alloc (.cells #[.int .i64 (s + t)] 3)) w6.heap.size _ _ from World.ownsRow.alloc HOM.out _) (Cls.start (N := (wr.alloc (.cells #[.int .i64 (s + t)] 3)).heap.size))
                have hnewA : ∀ (j : Nat) (u : Value), [Value.int .i64 (s + t)][j]? = some u → (wr.alloc (.cells #[.int .i64 (s + t)] 3)).drew.cell? ((⟨wr.heap.size, 0, none⟩ : Addr).add j) = some u := fun j u h => by
                  obtain ⟨_, e, h2⟩ := one_new wr (.int .i64 (s + t)) 3 j u h
                  cases e
                  exact h2
                have hbaseA : w6.heap.size ≤ (wr.alloc (.cells #[.int .i64 (s + t)] 3)).drew.heap.size := le_alloc hbel.size _
                have h63A : (moreL rows p q m x l).length + 1 ≤ maxLen := by rw [hlen.out]; unfold maxLen; omega
                have hbyA : ((moreL rows p q m x l).length + 1) * 8 ≤ 140737488355328 := by rw [hlen.out]; omega
                have HA := Lib.hid hownA
                have HNA := Lib.hid hnewA
                have HBA := Lib.hid hbaseA
                have H6A := Lib.hid h63A
                have H8A := Lib.hid hbyA
                have hd : Below w6.heap.size w6 wr.drew := hbel.trans Cls.start
                clear hownA hnewA hbaseA h63A hbyA hs ht x1 x2 b1 b2 b3 b4
                go_wp2_with fail
                go_region_held3 (fun w' => w'.cell? ⟨bx, ox + l, none⟩ = some (.int .i64 s) ∧ w'.cell? ⟨gs, l, none⟩ = some (.int .i64 t))
                  (first | exact HSS.out _ hd | exact HSS.out _ (hbel.alloc hbel.size _) | exact HSS.out _ ((hbel.alloc hbel.size _).trans Cls.start) | exact HSS.out _ (((hbel.alloc hbel.size _).trans Cls.start).trans (grown_below hgrow2 (le_alloc hbel.size _) (fun k hk => (HOM.out.lt k hk).1))))
                  ((refine step_append_lies _ (by rfl) _ _ _ (by rfl) w6.heap.size 3 ii (.int .i64 0) 1 8 Try.underlying28 hi hz0 hz1 hz2 (by rfl) (by decide) _ (moreL rows p q m x l).length ((moreL rows p q m x l).map (Value.int .i64)) (by rfl) HA.out ⟨wr.heap.size, 0, none⟩ 1 1 [.int .i64 (s + t)] (by rfl) (by rfl) HNA.out (one_int _ _) (by decide) H6A.out H8A.out HBA.out _ rfl ?_; intro g2' cap2' w3 hown2 hgrow2 hat2 hlt2))
                have hs2 := OwnInts.snoc rfl hown2
                rw [HSV.out, ← moreL_succ] at hs2
                have hb3 : Below w6.heap.size w6 w3 := ((hbel.alloc hbel.size _).trans Cls.start).trans (grown_below hgrow2 (le_alloc hbel.size _) (fun k hk => (HOM.out.lt k hk).1))
                go_wp2_with fail
                go_roundg (m - l)
                case measure => omega
                case rel => exact ⟨l + 1, by omega, by omega, by go_num, hs2, hb3⟩
              · obtain rfl : l = m := by omega
                obtain ⟨gm, capm, rfl, hgm1, hgm2⟩ := HOM.out.block (by rw [moreL_len]; omega)
                rw [moreL_len] at HOM ⊢
                have hsr : IntsAt wr (some ⟨gm, 0, none⟩) l (moreL rows p q l x l) := ⟨moreL_len _ _ _ _ _ _, fun c hc => ⟨gm, 0, rfl, by rw [Nat.zero_add]; exact (HOM.out.put.2 c hc).1⟩⟩
                have hB7 := below_trans hB6 hbel
                have h3 := HHAS.out (some ⟨gm, 0, none⟩) l capm (moreL rows p q l x l) wr (HR.out.call hB7) hsr (by omega)
                by_cases he3 : hasErr rows (moreL rows p q l x l) = 0
                · rw [he3, errV_zero, ← HV.out he3, ← HVX.out] at h3
                  clear hsr he3
                  go_wp2_with fail
                  go_at_call 15
                  refine h3.mono ?_
                  rintro e w8 ⟨rfl, hb8⟩
                  go_wp2_with fail
                  go_ret
                  exact ⟨rfl, below_trans hB7 hb8⟩
                · rw [errV_pos he3] at h3
                  generalize hasErr rows (moreL rows p q l x l) = e at *
                  generalize hasV rows (moreL rows p q l x l) = v at *
                  clear hsr he3
                  go_wp2_with fail
                  go_at_call 15
                  refine h3.mono ?_
                  rintro e w8 ⟨rfl, hb8⟩
                  go_wp2_with fail
                  go_ret
                  exact ⟨rfl, below_trans hB7 hb8⟩
          · rw [errV_pos hx0] at h2
            have hA := fun W (h : IntsAt W ax m x) => RAll_any ax m capx x (-100) 100 W h hm
            have hcase : ((m : Int) != (l : Int)) = true ∨ ((m : Int) != (l : Int)) = false ∧ anyOut (-100) 100 x = true := by
              have hxl := HX.out.1
              have hrl := HK.out.len
              unfold hasErr at hx0
              rw [if_neg (by simp [HE.out])] at hx0
              by_cases hml : m = l
              · right
                refine ⟨by simp [hml], ?_⟩
                rw [if_neg (by omega)] at hx0
                cases h : anyOut (-100) 100 x
                · rw [h] at hx0; simp at hx0
                · rfl
              · left; simp; omega
            generalize hasErr rows x = e at *
            clear h1 hb5
            rcases hcase with hc | ⟨hc, hao⟩
            · go_wp2_with fail
              go_at_call 15
              refine h2.mono ?_
              rintro e w6 ⟨rfl, hb6⟩
              go_wp2_with fail
              go_ret
              exact ⟨rfl, below_trans hB5 hb6⟩
            · go_wp2_with fail
              go_at_call 15
              refine h2.mono ?_
              rintro e w6 ⟨rfl, hb6⟩
              have hA6 := hA w6 (HX.out.call (below_trans hB5 hb6))
              rw [hao] at hA6
              go_wp2_with fail
              go_at_call 16
              refine hA6.mono ?_
              rintro e w7 ⟨rfl, rfl⟩
              go_wp2_with fail
              go_ret
              exact ⟨rfl, below_trans hB5 hb6⟩

theorem HermiteHas_any (a : Option Addr) (n cap : Nat) (rows : List (List Int)) {w1 : World} (hr : RowsAt w1 a n rows) (hcap : n ≤ cap) (hs : Small n rows) (i j : Int) (ax : Option Addr) (m capx : Nat) (x : List Int) {w2 : World} (hx : IntsAt w2 ax m x) (hc2 : m ≤ capx) (hm2 : capx ≤ 9223372036854775807 ∧ (ax = none → capx = 0)) (w : World) (e1 : w1 = w) (e2 : w2 = w) :
    Calls Try.prog 4 #[.slice a n cap, .int .i64 i, .int .i64 j, .slice ax m capx] w fun e w' => e = .returned (.bool true) ∧ Below w.heap.size w w' := by
  subst e1
  subst e2
  by_cases he : herErr rows = 0
  · exact has_good a n cap rows i j ax m capx x w2 hr hx hcap hs (by omega) he
  · exact has_bad a n cap rows i j ax m capx w2 hr hcap hs he
theorem frame_own : ownKnob Try.prog.godebug = none := by kernel_rfl
theorem frame_laid : laidOutB Try.prog = true := by kernel_rfl
set_option maxRecDepth 100000 in
theorem frame_lifted (os : Os) (started : os.Started) (H : Type) (enc : TypeId × Value → H) :
    ReturnsInHanded {} Try.checked os 4 .any (Rows.hermiteHasSpec.pre6 enc Try.prog Try.f4 Rows.hermiteHasRow.domain false) (Rows.hermiteHasSpec.post enc Try.prog Try.f4 false true false false) := by
  refine returnsInHanded_of_change (C := Try.checked) frame_own started (by kernel_rfl) Try.func4
    (ChangeSpec.witness6 (enc := enc) (C := Try.checked) false ⟨#[], #[.slice none 0 0, .int .i64 0, .int .i64 0, .slice none 0 0], []⟩ 8 (by kernel_rfl) (by kernel_rfl) (by kernel_rfl) (by kernel_rfl)) ?_
  intro W base args ds gs before hval0 hW hcnd _
  have hval : ∀ (j : Nat) t v, Try.f4.params[j]? = some t → args[j]? = some v → Value.okWide Try.prog W .any base t v := hval0
  have hW' := hW
  obtain ⟨p, q, hA0, hV, rfl, hfz, hnd⟩ := hW
  have hA : DataW.TrodAll enc Try.prog W 0 (fun _ => true) true Try.f4.params.toList args.toList ds p := hA0
  rw [Try.params4] at hA hval
  obtain ⟨v0, vs0, d0, ds0, p0, q0, hargs, rfl, rfl, h0, r0⟩ := trodAll_cons hA
  obtain ⟨v1, vs1, d1, ds1, p1, q1, rfl, rfl, rfl, h1, r1⟩ := trodAll_cons r0
  obtain ⟨v2, vs2, d2, ds2, p2, q2, rfl, rfl, rfl, h2, r2⟩ := trodAll_cons r1
  obtain ⟨v3, vs3, d3, ds3, p3, q3, rfl, rfl, rfl, h3, r3⟩ := trodAll_cons r2
  obtain ⟨rfl, rfl, rfl⟩ := trodAll_nil r3
  obtain rfl : args = #[v0, v1, v2, v3] := by cases args; simp_all
  obtain ⟨rfl, rfl⟩ := trodVars_none hV
  have k0 := h0
  have lt0 : ∀ x ∈ p0, x.block < W.heap.size := by obtain ⟨m, hm⟩ := k0; exact DataW.trod_lt m _ _ _ hm
  obtain ⟨a0, len0, cap0, rfl⟩ := okWide_slice Try.underlying22 (hval 0 22 v0 rfl rfl)
  obtain ⟨xs0, hxs0, hcap0, hmax0⟩ := open_rowsAt Try.underlying22 Try.underlying28 Try.underlying3 (by kernel_rfl) (by kernel_rfl) h0
  have k1 := h1
  have lt1 : ∀ x ∈ p1, x.block < W.heap.size := by obtain ⟨m, hm⟩ := k1; exact DataW.trod_lt m _ _ _ hm
  obtain ⟨a1, rfl, rfl, rfl, w1⟩ := open_int Try.underlying3 (hval 1 3 v1 rfl rfl) h1
  have k2 := h2
  have lt2 : ∀ x ∈ p2, x.block < W.heap.size := by obtain ⟨m, hm⟩ := k2; exact DataW.trod_lt m _ _ _ hm
  obtain ⟨a2, rfl, rfl, rfl, w2⟩ := open_int Try.underlying3 (hval 2 3 v2 rfl rfl) h2
  have k3 := h3
  have lt3 : ∀ x ∈ p3, x.block < W.heap.size := by obtain ⟨m, hm⟩ := k3; exact DataW.trod_lt m _ _ _ hm
  obtain ⟨a3, len3, cap3, rfl⟩ := okWide_slice Try.underlying28 (hval 3 28 v3 rfl rfl)
  obtain ⟨xs3, hxs3, hcap3, hmax3⟩ := open_intsAt Try.underlying28 Try.underlying3 (by kernel_rfl) h3
  clear hA0 hval0
  refine (HermiteHas_any a0 len0 cap0 xs0 hxs0 hcap0 hmax0 a1 a2 a3 len3 cap3 xs3 hxs3 hcap3 hmax3 W rfl rfl).mono fun e W' ⟨he, bel⟩ => ?_
  subst he
  exact ⟨_, rfl, _, _, _, [], _, [], hW', trodAll_mk1 (shut_bool Try.underlying4 _), (trodAll_cons_mk (Below.trod frame_laid (by kernel_rfl) (of_decide_eq_true (by kernel_rfl)) k0 bel lt0) (trodAll_cons_mk (Below.trod frame_laid (by kernel_rfl) (of_decide_eq_true (by kernel_rfl)) k1 bel lt1) (trodAll_cons_mk (Below.trod frame_laid (by kernel_rfl) (of_decide_eq_true (by kernel_rfl)) k2 bel lt2) (trodAll_cons_mk (Below.trod frame_laid (by kernel_rfl) (of_decide_eq_true (by kernel_rfl)) k3 bel lt3) trodAll_mk0)))), rfl, bel.frame _, fun h => by cases h⟩

theorem HermiteHas_over : Rows.hermiteHasRow.holds Try.pinned (OpenSpec.ofChange Rows.hermiteHasSpec) :=
  OpenClaim.holds_of_wide 4 Try.f4 rfl rfl rfl rfl rfl rfl rfl ⟨rfl, rfl, rfl, rfl, rfl⟩ rfl rfl rfl rfl rfl (by kernel_rfl) Try.func4 (by kernel_rfl)
    (of_decide_eq_true (by kernel_rfl)) (by unfold Func.isWrapper; first | (rw [if_pos (by decide +kernel)]; kernel_rfl) | (rw [if_neg (by decide +kernel)]; exact ⟨rfl, rfl⟩))
    (fun os started H enc _ => frame_lifted os started H enc)

/-- THE STATEMENT -/
theorem HermiteHas_holds : Rows.HermiteHasSaid := HermiteHas_over
end Go.Proofs.Ytkoheljfbpjbaaa.HermiteHasP
