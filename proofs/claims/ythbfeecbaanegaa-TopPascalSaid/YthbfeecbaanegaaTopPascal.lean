/- It proves that rankmeretop.TopPascal, called with any three integers, returns true. There are no conditions. -/
import Derived.Test.YthbfeecbaanegaaPathFact
import Derived.Test.YthbfeecbaanegaaDetFn
import Derived.Test.YthbfeecbaanegaaLawIn
import Derived.Test.YthbfeecbaanegaaOpen
import Derived.ProofKit
import Derived.OpenShut
import Derived.ShutString
import Derived.ChangeOld
import Derived.Lib.SmallJoins
namespace Go.Proofs.Ythbfeecbaanegaa.TopPascalP
open Go.ChangeShapes Go.WideShapes Go.ChangeAt Go.RowKit Go.Joins
open Go.ChangeMaps (open_string shut_string)
open Go.Proofs.Ythbfeecbaanegaa
set_option linter.unusedVariables false
set_option linter.unusedSimpArgs false

def pasRow (i l : Nat) : List Int := List.map (fun j : Nat => waysZ i (j : Int)) (List.range l)
def pasTo (n k : Nat) : List (List Int) := (List.range k).map fun i => pasRow i n
theorem pasRow_succ (i l : Nat) : pasRow i (l + 1) = pasRow i l ++ [waysZ i (l : Int)] := by simp [pasRow, List.range_succ]
theorem pasTo_succ (n k : Nat) : pasTo n (k + 1) = pasTo n k ++ [pasRow k n] := by simp [pasTo, List.range_succ]
theorem pasRow_len (i l : Nat) : (pasRow i l).length = l := by simp [pasRow]
theorem pasTo_len (n k : Nat) : (pasTo n k).length = k := by simp [pasTo]
theorem pas_sq (n : Nat) : Sq n (pasTo n n) := ⟨pasTo_len n n, fun i hi => by simp [pasTo, List.getD, hi, pasRow_len]⟩
theorem pas_fn {n i j : Nat} (hi : i < n) (hj : j < n) : fn (pasTo n n) i j = waysZ i (j : Int) := by simp [fn, pasTo, pasRow, List.getD, hi, hj]
theorem pas_det {n : Nat} (h0 : 0 < n) (h5 : n ≤ 5) : G (-1) n (fn (pasTo n n)) % 9973 = 1 := by
  have : n = 1 ∨ n = 2 ∨ n = 3 ∨ n = 4 ∨ n = 5 := by omega
  rcases this with rfl | rfl | rfl | rfl | rfl <;> decide +kernel
theorem pas_bd : ∀ i, i < 5 → ∀ j : Nat, j < 5 → 1 ≤ waysZ i (j : Int) ∧ waysZ i (j : Int) ≤ 300 := by decide +kernel
theorem IntsAt_one (w : World) (B : Nat) (x : Int) (h0 : w.cell? ⟨B, 0, none⟩ = some (.int .i64 x)) : IntsAt w (some ⟨B, 0, none⟩) 1 [x] := by
  refine ⟨rfl, fun i hi => ⟨B, 0, rfl, ?_⟩⟩
  match i, hi with
  | 0, _ => simpa using h0
/-- what lattice.Has answers to vectors that are right -/
theorem one_val {right up : Int} (h : waysE right up = 0) : pathErr right [0] [up] = 0 ∧ apartV right [0] [up] = waysV right up := by
  obtain ⟨h1, h2, h3, h4⟩ := waysE_good h
  have e : pathErr right [0] [up] = 0 := by
    unfold pathErr
    rw [if_neg (by simp [outB]; omega), if_neg (by simp), if_neg (by simp), if_neg (by simp)]
    have e1 : riseErr [0] = 0 := by decide
    have e2 : riseErr [up] = 0 := by
      unfold riseErr
      rw [riseFrom, if_neg (by simp [outB]; omega), if_neg (by omega)]
      rfl
    rw [if_neg (by rw [e1]; simp), e2]
  refine ⟨e, ?_⟩
  unfold apartV waysV
  rw [if_pos e, if_pos h]
  show G (-1) 1 _ = _
  simp [G, sumTo, pw, wayF]

set_option maxRecDepth 100000 in
set_option maxHeartbeats 4000000 in
theorem TopPascal_any (n right up : Int) (w : World) :
    Calls Try.prog 3 #[.int .i64 n, .int .i64 right, .int .i64 up] w fun e w' => e = .returned (.bool true) ∧ Below w.heap.size w w' := by
  obtain ⟨ii, hi, hz0, hz1, hz2⟩ := info_parts info_int
  obtain ⟨ji, hj, hy0, hy1, hy2⟩ := info_parts info_ints
  have h0 := fun W => Ways_any 0 0 W
  have e00 : waysV 0 0 = 1 ∧ waysE 0 0 = 0 := by decide +kernel
  rw [e00.1, e00.2, errV_zero] at h0
  have h1 := fun W => Ways_any right up W
  by_cases hE : waysE right up = 0
  · obtain ⟨k1, k2⟩ := one_val hE
    have hA := fun a b (W : World) (h1 : IntsAt W a 1 [0]) (h2 : IntsAt W b 1 [up]) => Apart_any right a b 1 1 1 1 [0] [up] W h1 h2 (by omega) (by omega)
    rw [k1, k2, errV_zero] at hA
    rw [hE, errV_zero] at h1
    generalize waysV right up = x at *
    have HA := Lib.hid hA
    clear hE k1 k2 e00 hA
    go_enter Try.func3, Try.ntmps3
    go_wp2_with fail
    go_at_call 4
    refine (h0 _).mono ?_
    rintro e w1 ⟨rfl, hb1⟩
    go_wp2_with fail
    go_at_call 4
    refine (h1 _).mono ?_
    rintro e w2 ⟨rfl, hb2⟩
    have hB2 := below_trans hb1 hb2
    clear hb1 hb2
    go_wp2_with fail
    go_at_call 5
    refine (HA.out _ _ _ (IntsAt_one _ _ _ (by go_simp)) (IntsAt_one _ _ _ (by go_simp))).mono ?_
    rintro e w3 ⟨rfl, hb⟩
    have hB3 : Below w.heap.size w w3 := below_trans hB2 (below_trans (((Below.refl w2.heap.size w2).alloc (Nat.le_refl _) _).alloc (by simp) _) hb)
    clear hb hB2 HA h1 h0
    go_wp2_with fail
    go_at_call 6
    refine (topin_any _ _ _ _).mono ?_
    rintro e w4 ⟨rfl, rfl⟩
    cases hn : inB n 1 5
    · go_wp2_with fail
      go_ret
      exact ⟨rfl, hB3⟩
    obtain ⟨hn0, hn5⟩ := inB_true hn
    clear hn
    obtain ⟨m, rfl⟩ := Int.eq_ofNat_of_zero_le (show 0 ≤ n by omega)
    have hm0 : 0 < m := by omega
    have hm5 : m ≤ 5 := by omega
    have hws := hB3.size
    clear hn0 hn5
    go_wp2_with fail
    go_loopg [12, 13] (m + 1) (fun g v i wr => ∃ k : Nat, k ≤ m ∧ m - k < g ∧ i = .int .i64 k ∧ OwnRows wr w3.heap.size v (pasTo m k) ∧ Below w3.heap.size w3 wr)
    case atStart => exact ⟨0, by omega, by omega, rfl, by simpa [pasTo] using OwnRows.nil w3 w3.heap.size, Below.refl _ _⟩
    case round =>
      obtain ⟨k, hk, hg, rfl, hown, hbel⟩ := hrel
      have hsz := hbel.size
      obtain ⟨wo, rfl⟩ : ∃ wo : World, wo = wr := ⟨_, rfl⟩
      by_cases hlt : k < m
      · obtain ⟨vs, hvs⟩ := hown.vals
        have hvl : vs.length = k := by rw [hvs.2.1, pasTo_len]
        have HVS := Lib.hid hvs
        clear hvs hown
        go_wp2_with fail
        go_loopg [14, 15] (m + 1) (fun g v i wr => ∃ l : Nat, l ≤ m ∧ m - l < g ∧ i = .int .i64 l ∧ OwnInts wr wo.heap.size v (pasRow k l) ∧ Below wo.heap.size wo wr)
        case atStart => exact ⟨0, by omega, by omega, rfl, by simpa [pasRow] using OwnInts.nil wo _, Below.refl _ _⟩
        case round =>
          obtain ⟨l, hl, hg2, rfl, hown, hbel2⟩ := hrel
          by_cases hlt2 : l < m
          · have hWy := fun W => Ways_any (k : Int) (l : Int) W
            have he := waysE_iff (right := (k : Int)) (up := (l : Int)) (by omega) (by omega) (by omega) (by omega)
            have hv : waysV (k : Int) (l : Int) = waysZ k (l : Int) := by unfold waysV; rw [if_pos he]; rfl
            rw [he, hv, errV_zero] at hWy
            have hbd := pas_bd k (by omega) l (by omega)
            obtain ⟨x, hx⟩ : ∃ x, x = waysZ k (l : Int) := ⟨_, rfl⟩
            rw [← hx] at hWy hbd
            have hin : inB x 1 300 = true := inB_yes hbd.1 hbd.2
            have hIN := fun W => topin_any x 1 300 W
            rw [hin] at hIN
            have HX := Lib.hid hx
            have HOW := Lib.hid hown
            have hlen := Lib.hid (pasRow_len k l)
            clear hx hown he hv hin hbd
            go_wp2_with fail
            go_at_call 4
            refine (hWy _).mono ?_
            rintro e w5 ⟨rfl, hb5⟩
            go_wp2_with fail
            go_at_call 6
            refine (hIN _).mono ?_
            rintro e w6 ⟨rfl, rfl⟩
            have hbel5 := hbel2.trans (hb5.mono hbel2.size)
            have HOW5 := Lib.hid (HOW.out.call hb5)
            clear hb5
            go_wp2_with (at_builtin; refine wpList_append_own1 (o := ⟨some 83, _, _, _, _, _⟩) rfl _ _ 27 rfl wo.heap.size 3 ii (.int .i64 0) 8 Try.underlying27 hi hz0 hz1 hz2 rfl _ (pasRow k l).length ((pasRow k l).map (Value.int .i64)) rfl (World.ownsRow.alloc HOW5.out _) (some ⟨w5.heap.size, 0, none⟩) 1 1 [.int .i64 x] rfl rfl (fun h => by cases h) (one_new _ _ _) (one_int _ _) (by rw [hlen.out]; unfold maxLen; omega) (by rw [hlen.out]; omega) (le_alloc hbel5.size _) ?_; intro v2 w2 hown2 hgrow2)
            have hs2 := OwnInts.snoc rfl hown2
            rw [HX.out, ← pasRow_succ] at hs2
            have hb2 := own_grow hbel5 HOW5.out hgrow2
            go_roundg (m - l)
            case measure => omega
            case rel => exact ⟨l + 1, by omega, by omega, by go_num, hs2, hb2⟩
          · obtain rfl : l = m := by omega
            have HOW := Lib.hid hown
            obtain ⟨ra2, ln2, rc2, rfl⟩ := OwnInts.isSlice hown
            clear hown
            go_wp2_with (at_builtin; refine wpList_append_own1 (o := ⟨some 87, _, _, _, _, _⟩) rfl _ _ 29 rfl w3.heap.size 27 ji (.slice none 0 0) 24 Try.underlying29 hj hy0 hy1 hy2 rfl _ vs.length vs rfl ((HVS.out.1.call hbel2).alloc _) (some ⟨wr.heap.size, 0, none⟩) 1 1 [.slice ra2 ln2 rc2] rfl rfl (fun h => by cases h) (one_new _ _ _) (one_slice _ _ _) (by unfold maxLen; omega) (by omega) (le_alloc (Nat.le_trans hsz hbel2.size) _) ?_; intro v3 w9 hown3 hgrow3)
            have hsn := OwnRowsV.snoc HVS.out hsz hbel2 HOW.out hown3 hgrow3
            rw [← pasTo_succ] at hsn
            have hbel3 : Below w3.heap.size w3 w9 := hbel.trans ((hbel2.mono hsz).trans (((Below.refl w3.heap.size _).alloc (Nat.le_trans hsz hbel2.size) _).trans (grown_below hgrow3 (le_alloc (Nat.le_trans hsz hbel2.size) _) (fun k hk => (World.ownsRow.lt HVS.out.1 k hk).1))))
            go_roundg (l - k)
            case measure => omega
            case rel => exact ⟨k + 1, by omega, by omega, by go_num, hsn, hbel3⟩
      · obtain rfl : k = m := by omega
        obtain ⟨a2, cap2, rfl, hc1, hc2, hra⟩ := hown.rowsAt
        rw [pasTo_len] at hra hc1 ⊢
        obtain ⟨b, off, rfl, _⟩ := hra.some hm0
        have hD := DetFn_good b off k cap2 (pasTo k k) wo hra hm0 hm5 hc1 (pas_sq k) (fun i j hi hj => by rw [pas_fn hi hj]; have := pas_bd i (by omega) j (by omega); omega)
        rw [pas_det hm0 hm5] at hD
        have HD := Lib.hid hD
        clear hown hra hD
        go_wp2_with fail
        go_at_call 7
        refine (HD.out).mono ?_
        rintro e w9 ⟨rfl, hb9⟩
        go_wp2_with fail
        go_ret
        exact ⟨rfl, below_trans hB3 (below_trans hbel hb9)⟩
  · have hv : waysV right up = 0 := by unfold waysV; rw [if_neg hE]
    rw [hv, errV_pos hE] at h1
    generalize waysE right up = E at *
    clear hE hv e00
    go_enter Try.func3, Try.ntmps3
    go_wp2_with fail
    go_at_call 4
    refine (h0 _).mono ?_
    rintro e w1 ⟨rfl, hb1⟩
    go_wp2_with fail
    go_at_call 4
    refine (h1 _).mono ?_
    rintro e w2 ⟨rfl, hb2⟩
    go_wp2_with fail
    go_ret
    exact ⟨rfl, below_trans hb1 hb2⟩
theorem frame_own : ownKnob Try.prog.godebug = none := by kernel_rfl
theorem frame_laid : laidOutB Try.prog = true := by kernel_rfl
set_option maxRecDepth 100000 in
theorem frame_lifted (os : Os) (started : os.Started) (H : Type) (enc : TypeId × Value → H) :
    ReturnsInHanded {} Try.checked os 3 .any (Rows.topPascalSpec.pre6 enc Try.prog Try.f3 Rows.topPascalRow.domain false) (Rows.topPascalSpec.post enc Try.prog Try.f3 false true false false) := by
  refine returnsInHanded_of_change (C := Try.checked) frame_own started (by kernel_rfl) Try.func3
    (ChangeSpec.witness6 (enc := enc) (C := Try.checked) false ⟨#[], #[.int .i64 0, .int .i64 0, .int .i64 0], []⟩ 8 (by kernel_rfl) (by kernel_rfl) (by kernel_rfl) (by kernel_rfl)) ?_
  intro W base args ds gs before hval0 hW hcnd _
  have hval : ∀ (j : Nat) t v, Try.f3.params[j]? = some t → args[j]? = some v → Value.okWide Try.prog W .any base t v := hval0
  have hW' := hW
  obtain ⟨p, q, hA0, hV, rfl, hfz, hnd⟩ := hW
  have hA : DataW.TrodAll enc Try.prog W 0 (fun _ => true) true Try.f3.params.toList args.toList ds p := hA0
  rw [Try.params3] at hA hval
  obtain ⟨v0, vs0, d0, ds0, p0, q0, hargs, rfl, rfl, h0, r0⟩ := trodAll_cons hA
  obtain ⟨v1, vs1, d1, ds1, p1, q1, rfl, rfl, rfl, h1, r1⟩ := trodAll_cons r0
  obtain ⟨v2, vs2, d2, ds2, p2, q2, rfl, rfl, rfl, h2, r2⟩ := trodAll_cons r1
  obtain ⟨rfl, rfl, rfl⟩ := trodAll_nil r2
  obtain rfl : args = #[v0, v1, v2] := by cases args; simp_all
  obtain ⟨rfl, rfl⟩ := trodVars_none hV
  have k0 := h0
  have lt0 : ∀ x ∈ p0, x.block < W.heap.size := by obtain ⟨m, hm⟩ := k0; exact DataW.trod_lt m _ _ _ hm
  obtain ⟨a0, rfl, rfl, rfl, w0⟩ := open_int Try.underlying3 (hval 0 3 v0 rfl rfl) h0
  have k1 := h1
  have lt1 : ∀ x ∈ p1, x.block < W.heap.size := by obtain ⟨m, hm⟩ := k1; exact DataW.trod_lt m _ _ _ hm
  obtain ⟨a1, rfl, rfl, rfl, w1⟩ := open_int Try.underlying3 (hval 1 3 v1 rfl rfl) h1
  have k2 := h2
  have lt2 : ∀ x ∈ p2, x.block < W.heap.size := by obtain ⟨m, hm⟩ := k2; exact DataW.trod_lt m _ _ _ hm
  obtain ⟨a2, rfl, rfl, rfl, w2⟩ := open_int Try.underlying3 (hval 2 3 v2 rfl rfl) h2
  clear hA0 hval0
  refine (TopPascal_any a0 a1 a2 W).mono fun e W' ⟨he, bel⟩ => ?_
  subst he
  exact ⟨_, rfl, _, _, _, [], _, [], hW', trodAll_mk1 (shut_bool Try.underlying4 _), (trodAll_cons_mk (Below.trod frame_laid (by kernel_rfl) (of_decide_eq_true (by kernel_rfl)) k0 bel lt0) (trodAll_cons_mk (Below.trod frame_laid (by kernel_rfl) (of_decide_eq_true (by kernel_rfl)) k1 bel lt1) (trodAll_cons_mk (Below.trod frame_laid (by kernel_rfl) (of_decide_eq_true (by kernel_rfl)) k2 bel lt2) trodAll_mk0))), rfl, bel.frame _, fun h => by cases h⟩

theorem TopPascal_over : Rows.topPascalRow.holds Try.pinned (OpenSpec.ofChange Rows.topPascalSpec) :=
  OpenClaim.holds_of_wide 3 Try.f3 rfl rfl rfl rfl rfl rfl rfl ⟨rfl, rfl, rfl, rfl, rfl⟩ rfl rfl rfl rfl rfl (by kernel_rfl) Try.func3 (by kernel_rfl)
    (of_decide_eq_true (by kernel_rfl)) (by unfold Func.isWrapper; first | (rw [if_pos (by decide +kernel)]; kernel_rfl) | (rw [if_neg (by decide +kernel)]; exact ⟨rfl, rfl⟩))
    (fun os started H enc _ => frame_lifted os started H enc)

/-- THE STATEMENT -/
theorem TopPascal_holds : Rows.TopPascalSaid := TopPascal_over
end Go.Proofs.Ythbfeecbaanegaa.TopPascalP
