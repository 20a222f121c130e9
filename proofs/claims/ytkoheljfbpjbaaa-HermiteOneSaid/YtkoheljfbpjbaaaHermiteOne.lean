/- It proves that rankmerelaw4.HermiteOne, called with any list of lists of integers and any three integers, returns true, and leaves its arguments as they were. There are no conditions. -/
import Derived.Test.YtkoheljfbpjbaaaHerSame
import Derived.Test.YtkoheljfbpjbaaaRCopy
import Derived.Test.YtkoheljfbpjbaaaSqOf
import Derived.Test.YtkoheljfbpjbaaaLawIn
import Derived.Test.YtkoheljfbpjbaaaPut
import Derived.Test.YtkoheljfbpjbaaaOpen
import Derived.StillTailTactics
import Derived.ProofKit
import Derived.OpenShut
import Derived.ShutString
import Derived.ChangeOld
import Derived.Lib.SmallJoins
namespace Go.Proofs.Ytkoheljfbpjbaaa.HermiteOneP
open Go.ChangeShapes Go.WideShapes Go.ChangeAt Go.RowKit Go.Joins
open Go.ChangeMaps (open_string shut_string)
open Go.Proofs.Ytkoheljfbpjbaaa
set_option linter.unusedVariables false
set_option linter.unusedSimpArgs false

theorem one_bad (a : Option Addr) (n cap : Nat) (rows : List (List Int)) (i j k : Int) (w : World) (hr : RowsAt w a n rows) (hcap : n ≤ cap) (hs : Small n rows) (he : herErr rows ≠ 0) :
    Calls Try.prog 5 #[.slice a n cap, .int .i64 i, .int .i64 j, .int .i64 k] w fun e w' => e = .returned (.bool true) ∧ Below w.heap.size w w' := by
  have hF := fun w (h : RowsAt w a n rows) => FormFn_bad a n cap rows w h hcap hs he
  rw [errV_pos he] at hF
  generalize herErr rows = e at *
  have HR := Lib.hid hr
  clear hr he hs
  go_enter Try.func5, Try.ntmps5
  go_wp2_with fail
  go_at_call 10
  refine (hermiteFact_any _).mono ?_
  rintro e w1 ⟨rfl, hb⟩
  go_wp2_with fail
  go_at_call 11
  refine (hF _ (HR.out.call hb)).mono ?_
  rintro e w2 ⟨rfl, hb2⟩
  go_wp2_with fail
  go_ret
  exact ⟨rfl, below_trans hb hb2⟩

/-- what row p is to be -/
def nextR (M : Nat → Nat → Int) (p q : Nat) (k : Int) (b : Nat) : Int := if p = q then -M p b else M p b + k * M q b
def nextTo (M : Nat → Nat → Int) (p q : Nat) (k : Int) (c a b : Nat) : Int := if a = p ∧ b < c then nextR M p q k b else M a b
theorem next_step {n : Nat} {A : List (List Int)} {M : Nat → Nat → Int} {p q c : Nat} {k x : Int} (hs : Sq n A) (hp : p < n) (hc : c < n) (hx : x = nextR M p q k c) (h : ∀ a b, a < n → b < n → fn A a b = nextTo M p q k c a b) :
    ∀ a b, a < n → b < n → fn (putE A p c x) a b = nextTo M p q k (c + 1) a b := by
  intro a b ha hb
  rw [fn_put hs hp hc, h a b ha hb, hx]
  unfold nextTo
  by_cases h1 : a = p
  · by_cases h4 : b = c
    · rw [if_pos ⟨h1, h4⟩, if_pos ⟨h1, by omega⟩, h4]
    · rw [if_neg (fun h => h4 h.2)]
      by_cases h5 : b < c
      · rw [if_pos ⟨h1, h5⟩, if_pos ⟨h1, by omega⟩]
      · rw [if_neg (fun h => h5 h.2), if_neg (by omega)]
  · rw [if_neg (fun h => h1 h.1), if_neg (fun h => h1 h.1), if_neg (fun h => h1 h.1)]
theorem next_like {n : Nat} {A : List (List Int)} {M : Nat → Nat → Int} {p q : Nat} {k : Int} (hp : p < n) (hq : q < n) (h : ∀ a b, a < n → b < n → fn A a b = nextTo M p q k n a b) : Like n M (fn A) := by
  by_cases hpq : p = q
  · refine like_to (like_neg hp M) fun a b ha hb => ?_
    rw [h a b ha hb]
    unfold nextTo nextR setRow
    by_cases h1 : a = p
    · rw [if_pos ⟨h1, hb⟩, if_pos hpq, if_pos h1]; show -M p b = -1 * M p b; omega
    · rw [if_neg (fun h => h1 h.1), if_neg h1]
  · refine like_to (like_less hp hq hpq M (-k)) fun a b ha hb => ?_
    rw [h a b ha hb]
    unfold nextTo nextR setRow
    by_cases h1 : a = p
    · rw [if_pos ⟨h1, hb⟩, if_neg hpq, if_pos h1]
      show M p b + k * M q b = M p b - -k * M q b
      rw [Int.neg_mul]; omega
    · rw [if_neg (fun h => h1 h.1), if_neg h1]
theorem next_err {n : Nat} {rows A : List (List Int)} (hk : HerOk n rows) (hs : Sq n A) (hl : Like n (fn rows) (fn A)) : herErr A = 0 ∨ herErr A = 1 := by
  unfold herErr
  have hp := hk.pos
  have hle := hk.le
  rcases sqErr_or (most := 3) (lo := -20) (hi := 20) hs hp (by omega) with g | g
  · left
    rw [if_pos g, hs.1, if_neg]
    have := hk.det
    rcases hl.2 with h | h <;> omega
  · right
    rw [if_neg (by omega), g]
theorem small_sq {n : Nat} {A : List (List Int)} (hn : n ≤ 3) (hA : Sq n A) : Small n A := ⟨by omega, fun k hk => by rw [hA.2 k hk]; omega⟩

set_option maxRecDepth 100000 in
set_option maxHeartbeats 4000000 in
theorem one_good (a : Option Addr) (n cap : Nat) (rows : List (List Int)) (i j k : Int) (w : World) (hr : RowsAt w a n rows) (hcap : n ≤ cap) (hs : Small n rows) (he : herErr rows = 0) :
    Calls Try.prog 5 #[.slice a n cap, .int .i64 i, .int .i64 j, .int .i64 k] w fun e w' => e = .returned (.bool true) ∧ Below w.heap.size w w' := by
  have hk := herErr_good hr.1 he
  have hF := Lib.hid (fun w (h : RowsAt w a n rows) => FormFn_good a n cap rows w h hcap hs he)
  have hn1 := hk.pos
  have hn3 := hk.le
  obtain ⟨b, off, rfl, hb0⟩ := hr.some hn1
  have HR := Lib.hid hr
  have HK := Lib.hid hk
  have HE := Lib.hid he
  have HS := Lib.hid hs
  clear hr hs he hk
  go_enter Try.func5, Try.ntmps5
  go_wp2_with fail
  go_at_call 10
  refine (hermiteFact_any _).mono ?_
  rintro e w1 ⟨rfl, hb⟩
  go_wp2_with fail
  go_at_call 11
  refine (hF.out _ (HR.out.call hb)).mono ?_
  rintro e w2 ⟨⟨G', T, rfl, hT1, hT2, hT3⟩, hb2⟩
  have hB2 := below_trans hb hb2
  have HT2 := Lib.hid hT2
  have HT3 := Lib.hid hT3
  have hH := Lib.hid (fun W (h : RowsAt W (some ⟨G', 0, none⟩) n T) => HRows_any (some ⟨G', 0, none⟩) n n T W h (Nat.le_refl _) (small_sq hn3 hT2))
  have HT1 := Lib.hid hT1
  clear hb hb2 hF hT1 hT2 hT3
  by_cases hT : herErr T = 0
  case' pos =>
    have hFT := Lib.hid (fun W (h : RowsAt W (some ⟨G', 0, none⟩) n T) => FormFn_good (some ⟨G', 0, none⟩) n n T W h (Nat.le_refl _) (small_sq hn3 HT2.out) hT)
    rw [hT] at hH
    go_wp2_with fail
    go_at_call 17
    refine (hH.out _ HT1.out).mono ?_
    rintro e w3 ⟨rfl, hb3⟩
    go_wp2_with fail
    go_at_call 11
    refine (hFT.out _ (HT1.out.call hb3)).mono ?_
    rintro e w4 ⟨⟨G2, T2, rfl, hU1, hU2, hU3⟩, hb4⟩
    obtain rfl : T2 = T := form_list hU2 HT2.out hU3 ⟨Like.refl _ _, HT3.out.done⟩
    have hb34 := below_trans hb3 hb4
    have HE4 := Lib.hid (ERows_like (some ⟨G', 0, none⟩) (some ⟨G2, 0, none⟩) n n n T2 w4 (HT1.out.call hb34) hU1 (by omega) (fun k hk => by rw [hU2.2 k hk]; omega))
    clear hU1 hU2 hU3
    go_wp2_with fail
    go_at_call 18
    refine (HE4.out).mono ?_
    rintro e w5 ⟨rfl, hb5⟩
    have HT5 := Lib.hid (HT1.out.call (below_trans hb34 hb5))
    have hB5 := below_trans hB2 (below_trans hb34 hb5)
    clear hb3 hb4 hb34 hb5 hH hFT hT HE4 HT1 hB2
    go_wp2_with fail
    generalize T2 = T at *
    clear T2
  case' neg =>
    have hTb : (herErr T == 0) = false := by simp [hT]
    obtain ⟨et, het⟩ : ∃ e, e = herErr T := ⟨_, rfl⟩
    rw [← het] at hH hTb
    go_wp2_with fail
    go_at_call 17
    refine (hH.out _ HT1.out).mono ?_
    rintro e w5 ⟨rfl, hb3⟩
    have HT5 := Lib.hid (HT1.out.call hb3)
    have hB5 := below_trans hB2 hb3
    clear hb3 hH hT HT1 hB2 het
    go_wp2_with fail
    clear hTb
  all_goals
    go_at_call 12
    refine (in_any _ _ _ _).mono ?_
    rintro e w6 ⟨rfl, rfl⟩
    cases hbi : inB i 0 ((n : Int) - 1)
    · go_wp2_with fail
      go_ret
      exact ⟨rfl, hB5⟩
    go_wp2_with fail
    go_at_call 12
    refine (in_any _ _ _ _).mono ?_
    rintro e w6 ⟨rfl, rfl⟩
    cases hbj : inB j 0 ((n : Int) - 1)
    · go_wp2_with fail
      go_ret
      exact ⟨rfl, hB5⟩
    go_wp2_with fail
    go_at_call 12
    refine (in_any _ _ _ _).mono ?_
    rintro e w6 ⟨rfl, rfl⟩
    cases hbk : inB k (-20) 20
    · go_wp2_with fail
      go_ret
      exact ⟨rfl, hB5⟩
    obtain ⟨hi0, hi1⟩ := inB_true hbi
    obtain ⟨hj0, hj1⟩ := inB_true hbj
    obtain ⟨hk0, hk1⟩ := inB_true hbk
    obtain ⟨p, rfl⟩ := Int.eq_ofNat_of_zero_le hi0
    obtain ⟨q, rfl⟩ := Int.eq_ofNat_of_zero_le hj0
    have hp : p < n := by omega
    have hq : q < n := by omega
    have hp1 : (p : Int) < n := by omega
    have hq1 : (q : Int) < n := by omega
    clear hbi hbj hbk
    go_wp2_with fail
    go_at_call 19
    refine (RCopy_any _ n _ rows _ (HR.out.call hB5) (by omega) hcap (fun k hk => by rw [HK.out.sq.2 k hk]; omega)).mono ?_
    rintro e w7 ⟨⟨vb, rfl, hcb⟩, hb7⟩
    obtain ⟨vsb, hvb⟩ := hcb.vals
    obtain ⟨Gb, capb, rfl, hcapb⟩ := hvb.isRows (by rw [HK.out.len]; omega)
    rw [HK.out.len] at hvb hcapb ⊢
    have HVB := Lib.hid hvb
    clear hcb hvb
    go_wp2_with fail
    go_loopg [16] (n + 1) (fun g i wr => ∃ (c : Nat) (A : List (List Int)), c ≤ n ∧ n - c < g ∧ i = .int .i64 c ∧ OwnRowsV wr w5.heap.size (.slice (some ⟨Gb, 0, none⟩) n capb) vsb A ∧ (Sq n A ∧ ∀ a b, a < n → b < n → fn A a b = nextTo (fn rows) p q k c a b) ∧ Below w5.heap.size w5 wr)
    case atStart => exact ⟨0, rows, by omega, by omega, rfl, HVB.out, ⟨HK.out.sq, fun a b _ _ => by simp [nextTo]⟩, hb7⟩
    case round =>
      obtain ⟨c, A, hc, hg, rfl, hA, hsA, hbel⟩ := hrel
      have HA := Lib.hid hA
      have HSA := Lib.hid hsA
      have hzr := hbel.size
      have hB8 := below_trans hB5 hbel
      clear hA hsA hb7
      by_cases hlt : c < n
      · obtain ⟨gp, op, rp, hmp, hmpc, hbp⟩ := (HR.out.call hB8).at HK.out.sq hp hlt
        obtain ⟨gq, oq, rq, hmq, hmqc, hbq⟩ := (HR.out.call hB8).at HK.out.sq hq hlt
        have xb := HK.out.ent p c
        have yb := HK.out.ent q c
        obtain ⟨x, hx⟩ : ∃ x, x = fn rows p c := ⟨_, rfl⟩
        obtain ⟨y, hy⟩ : ∃ y, y = fn rows q c := ⟨_, rfl⟩
        rw [← hx] at hmpc xb
        rw [← hy] at hmqc yb
        have hky := bd_mul (a := k) (b := y) (B := 20) (C := 20) hk0 hk1 (by omega) (by omega)
        obtain ⟨hky1, hky2⟩ := hky
        obtain ⟨t, ht⟩ : ∃ t, t = k * y := ⟨_, rfl⟩
        rw [← ht] at hky1 hky2
        have HNX := Lib.hid (show (if p = q then -x else x + t) = nextR (fn rows) p q k c by rw [hx, ht, hy]; rfl)
        have hw1 : k * y = t := ht.symm
        have hw2 : IntKind.i64.wrap t = t := IntWalk.i64_in _ (by omega)
        have hw3 : IntKind.i64.wrap (x + t) = x + t := IntWalk.i64_in _ (by omega)
        have hw4 : IntKind.i64.wrap (-x) = -x := IntWalk.i64_in _ (by omega)
        have hc0 : (0 : Int) ≤ c := by omega
        have hc1 : (c : Int) < n := by omega
        obtain ⟨g1, rc1', ha1, hg1, hg1z, hg1n, he1, hf1, hac1, hst1⟩ := HA.out.at HSA.out.1 hp hlt
        have HST := Lib.hid hst1
        have z1 := World.block_lt_of_cell? _ _ hmp
        have z2 := World.block_lt_of_cell? _ _ ha1
        dsimp only at z1 z2
        clear hx hy ht hst1 he1
        by_cases hpq : p = q
        · subst hpq
          rw [if_pos rfl] at HNX
          have HSTx := Lib.hid (HST.out (-x))
          go_wp2_with fail
          go_still_tail 13, (by kernel_rfl)
          go_wp2_with fail
          go_roundg (n - c)
          case measure => omega
          case rel => exact ⟨c + 1, _, by omega, by omega, by go_num, HSTx.out.call Cls.start, ⟨put_sq HSA.out.1 _ _ _, next_step HSA.out.1 hp hlt HNX.out HSA.out.2⟩, (hbel.setCell (p := ⟨g1, c, none⟩) hg1 _).trans Cls.start⟩
        · have hpqi : ((p : Int) == (q : Int)) = false := by simp; omega
          rw [if_neg hpq] at HNX
          have HSTx := Lib.hid (HST.out (x + t))
          go_wp2_with fail
          go_still_tail 22, (by kernel_rfl)
          go_wp2_with fail
          go_roundg (n - c)
          case measure => omega
          case rel => exact ⟨c + 1, _, by omega, by omega, by go_num, HSTx.out.call Cls.start, ⟨put_sq HSA.out.1 _ _ _, next_step HSA.out.1 hp hlt HNX.out HSA.out.2⟩, (hbel.setCell (p := ⟨g1, c, none⟩) hg1 _).trans Cls.start⟩
      · obtain rfl : c = n := by omega
        have hra := HA.out.read
        rw [HSA.out.1.1] at hra
        have HRA := Lib.hid hra
        have hlk := next_like (k := k) hp hq HSA.out.2
        have hns := small_sq hn3 HSA.out.1
        rcases next_err HK.out HSA.out.1 hlk with e0 | e0
        · have hFb := Lib.hid (FormFn_good (some ⟨Gb, 0, none⟩) c capb A wr hra hcapb hns e0)
          have hSb := Lib.hid (fun W (hb : Below wr.heap.size wr W) => Same_good (some ⟨b, off, none⟩) (some ⟨Gb, 0, none⟩) c cap capb rows A W (HR.out.call (below_trans hB8 hb)) (HRA.out.call hb) hcap hcapb HS.out hns HE.out e0 hlk.1)
          have HLK := Lib.hid hlk
          clear hra hlk hns e0
          go_wp2_with fail
          go_at_call 11
          refine (hFb.out).mono ?_
          rintro e w8 ⟨⟨G3, T3, rfl, hU1, hU2, hU3⟩, hb8⟩
          obtain rfl : T = T3 := sq_ext HT2.out hU2 (HT3.out.one hU3 HLK.out.1)
          have HU1 := Lib.hid hU1
          clear hU1 hU2 hU3 hFb
          go_wp2_with fail
          go_at_call 20
          refine (hSb.out _ hb8).mono ?_
          rintro e w9 ⟨rfl, hb9⟩
          have hb89 := below_trans hb8 hb9
          have HEE := Lib.hid (ERows_like (some ⟨G', 0, none⟩) (some ⟨G3, 0, none⟩) c c c T w9 (HT5.out.call (below_trans hbel hb89)) (HU1.out.call hb9) (by omega) (fun k hk => by rw [HT2.out.2 k hk]; omega))
          clear hb8 hb9 hSb
          go_wp2_with fail
          go_at_call 18
          refine (HEE.out).mono ?_
          rintro e w10 ⟨rfl, hb10⟩
          go_wp2_with fail
          go_ret
          exact ⟨rfl, below_trans hB8 (below_trans hb89 hb10)⟩
        · have hFb := Lib.hid (FormFn_bad (some ⟨Gb, 0, none⟩) c capb A wr hra hcapb hns (by omega))
          have hHb := Lib.hid (fun W (hb : Below wr.heap.size wr W) => HRows_any (some ⟨Gb, 0, none⟩) c capb A W (HRA.out.call hb) hcapb hns)
          rw [e0, errV_pos (by decide)] at hFb
          rw [e0] at hHb
          clear hra hlk hns e0
          go_wp2_with fail
          go_at_call 11
          refine (hFb.out).mono ?_
          rintro e w8 ⟨rfl, hb8⟩
          go_wp2_with fail
          go_at_call 17
          refine (hHb.out _ hb8).mono ?_
          rintro e w9 ⟨rfl, hb9⟩
          go_wp2_with fail
          go_ret
          exact ⟨rfl, below_trans hB8 (below_trans hb8 hb9)⟩

theorem HermiteOne_any (a : Option Addr) (n cap : Nat) (rows : List (List Int)) {w' : World} (hr : RowsAt w' a n rows) (hcap : n ≤ cap) (hs : Small n rows) (i j k : Int) (w : World) (e : w' = w) :
    Calls Try.prog 5 #[.slice a n cap, .int .i64 i, .int .i64 j, .int .i64 k] w fun e w' => e = .returned (.bool true) ∧ Below w.heap.size w w' := by
  subst e
  by_cases he : herErr rows = 0
  · exact one_good a n cap rows i j k w' hr hcap hs he
  · exact one_bad a n cap rows i j k w' hr hcap hs he
theorem frame_own : ownKnob Try.prog.godebug = none := by kernel_rfl
theorem frame_laid : laidOutB Try.prog = true := by kernel_rfl
set_option maxRecDepth 100000 in
theorem frame_lifted (os : Os) (started : os.Started) (H : Type) (enc : TypeId × Value → H) :
    ReturnsInHanded {} Try.checked os 5 .any (Rows.hermiteOneSpec.pre6 enc Try.prog Try.f5 Rows.hermiteOneRow.domain false) (Rows.hermiteOneSpec.post enc Try.prog Try.f5 false true false false) := by
  refine returnsInHanded_of_change (C := Try.checked) frame_own started (by kernel_rfl) Try.func5
    (ChangeSpec.witness6 (enc := enc) (C := Try.checked) false ⟨#[], #[.slice none 0 0, .int .i64 0, .int .i64 0, .int .i64 0], []⟩ 8 (by kernel_rfl) (by kernel_rfl) (by kernel_rfl) (by kernel_rfl)) ?_
  intro W base args ds gs before hval0 hW hcnd _
  have hval : ∀ (j : Nat) t v, Try.f5.params[j]? = some t → args[j]? = some v → Value.okWide Try.prog W .any base t v := hval0
  have hW' := hW
  obtain ⟨p, q, hA0, hV, rfl, hfz, hnd⟩ := hW
  have hA : DataW.TrodAll enc Try.prog W 0 (fun _ => true) true Try.f5.params.toList args.toList ds p := hA0
  rw [Try.params5] at hA hval
  obtain ⟨v0, vs0, d0, ds0, p0, q0, hargs, rfl, rfl, h0, r0⟩ := trodAll_cons hA
  obtain ⟨v1, vs1, d1, ds1, p1, q1, rfl, rfl, rfl, h1, r1⟩ := trodAll_cons r0
  obtain ⟨v2, vs2, d2, ds2, p2, q2, rfl, rfl, rfl, h2, r2⟩ := trodAll_cons r1
  obtain ⟨v3, vs3, d3, ds3, p3, q3, rfl, rfl, rfl, h3, r3⟩ := trodAll_cons r2
  obtain ⟨rfl, rfl, rfl⟩ := trodAll_nil r3
  obtain rfl : args = #[v0, v1, v2, v3] := by cases args; simp_all
  obtain ⟨rfl, rfl⟩ := trodVars_none hV
  have k0 := h0
  have lt0 : ∀ x ∈ p0, x.block < W.heap.size := by obtain ⟨m, hm⟩ := k0; exact DataW.trod_lt m _ _ _ hm
  obtain ⟨a0, len0, cap0, rfl⟩ := okWide_slice Try.underlying22 (hval 0 22 v0 rfl rfl)
  obtain ⟨xs0, hxs0, hcap0, hmax0⟩ := open_rowsAt Try.underlying22 Try.underlying28 Try.underlying3 (by kernel_rfl) (by kernel_rfl) h0
  have k1 := h1
  have lt1 : ∀ x ∈ p1, x.block < W.heap.size := by obtain ⟨m, hm⟩ := k1; exact DataW.trod_lt m _ _ _ hm
  obtain ⟨a1, rfl, rfl, rfl, w1⟩ := open_int Try.underlying3 (hval 1 3 v1 rfl rfl) h1
  have k2 := h2
  have lt2 : ∀ x ∈ p2, x.block < W.heap.size := by obtain ⟨m, hm⟩ := k2; exact DataW.trod_lt m _ _ _ hm
  obtain ⟨a2, rfl, rfl, rfl, w2⟩ := open_int Try.underlying3 (hval 2 3 v2 rfl rfl) h2
  have k3 := h3
  have lt3 : ∀ x ∈ p3, x.block < W.heap.size := by obtain ⟨m, hm⟩ := k3; exact DataW.trod_lt m _ _ _ hm
  obtain ⟨a3, rfl, rfl, rfl, w3⟩ := open_int Try.underlying3 (hval 3 3 v3 rfl rfl) h3
  clear hA0 hval0
  refine (HermiteOne_any a0 len0 cap0 xs0 hxs0 hcap0 hmax0 a1 a2 a3 W rfl).mono fun e W' ⟨he, bel⟩ => ?_
  subst he
  exact ⟨_, rfl, _, _, _, [], _, [], hW', trodAll_mk1 (shut_bool Try.underlying4 _), (trodAll_cons_mk (Below.trod frame_laid (by kernel_rfl) (of_decide_eq_true (by kernel_rfl)) k0 bel lt0) (trodAll_cons_mk (Below.trod frame_laid (by kernel_rfl) (of_decide_eq_true (by kernel_rfl)) k1 bel lt1) (trodAll_cons_mk (Below.trod frame_laid (by kernel_rfl) (of_decide_eq_true (by kernel_rfl)) k2 bel lt2) (trodAll_cons_mk (Below.trod frame_laid (by kernel_rfl) (of_decide_eq_true (by kernel_rfl)) k3 bel lt3) trodAll_mk0)))), rfl, bel.frame _, fun h => by cases h⟩

theorem HermiteOne_over : Rows.hermiteOneRow.holds Try.pinned (OpenSpec.ofChange Rows.hermiteOneSpec) :=
  OpenClaim.holds_of_wide 5 Try.f5 rfl rfl rfl rfl rfl rfl rfl ⟨rfl, rfl, rfl, rfl, rfl⟩ rfl rfl rfl rfl rfl (by kernel_rfl) Try.func5 (by kernel_rfl)
    (of_decide_eq_true (by kernel_rfl)) (by unfold Func.isWrapper; first | (rw [if_pos (by decide +kernel)]; kernel_rfl) | (rw [if_neg (by decide +kernel)]; exact ⟨rfl, rfl⟩))
    (fun os started H enc _ => frame_lifted os started H enc)

/-- THE STATEMENT -/
theorem HermiteOne_holds : Rows.HermiteOneSaid := HermiteOne_over
end Go.Proofs.Ytkoheljfbpjbaaa.HermiteOneP
