/- It proves that rankmeretop.TopPlaces, called with any three places, returns true, and leaves its arguments as they were. There are no conditions. -/
import Derived.Test.YtkoheljfbpjbaaaHerFact
import Derived.Test.YtkoheljfbpjbaaaLatC
import Derived.Test.YtkoheljfbpjbaaaLawIn
import Derived.Test.YtkoheljfbpjbaaaOpen
import Derived.ProofKit
import Derived.OpenShut
import Derived.ShutString
import Derived.ChangeOld
import Derived.Lib.SmallJoins
namespace Go.Proofs.Ytkoheljfbpjbaaa.TopPlacesP
open Go.ChangeShapes Go.WideShapes Go.ChangeAt Go.RowKit Go.Joins
open Go.ChangeMaps (open_string shut_string)
open Go.Proofs.Ytkoheljfbpjbaaa
set_option linter.unusedVariables false
set_option linter.unusedSimpArgs false

/-- what smith.Index answers -/
def indexV (rows : List (List Int)) : Int := if herErr rows = 0 then (G (-1) rows.length (fn rows)).natAbs else 0
theorem SIndex_any (a : Option Addr) (n cap : Nat) (rows : List (List Int)) (w : World) (hr : RowsAt w a n rows) (hcap : n ≤ cap) (hs : Small n rows) :
    Calls Try.prog 24 #[.slice a n cap] w fun e w' => e = .returned (.tuple #[.int .i64 (indexV rows), errV (herErr rows)]) ∧ Below w.heap.size w w' := by
  have hC := HCheck_any a n cap rows w hr hcap hs
  by_cases he : herErr rows = 0
  · have hk := herErr_good hr.1 he
    have hbd := hk.bd
    have hD := Lib.hid (fun W (h : RowsAt W a n rows) => Det_any n a cap rows W (by have := hk.le; omega) hcap hk.sq h)
    rw [detN_G, wrap_in (by omega) (by omega)] at hD
    have hv : indexV rows = (G (-1) n (fn rows)).natAbs := by unfold indexV; rw [if_pos he, hr.1]
    rw [hv, he, errV_zero]
    rw [he, errV_zero] at hC
    generalize G (-1) n (fn rows) = d at *
    obtain ⟨b1, b2⟩ := hbd
    have HR := Lib.hid hr
    clear hr hs he hk hv
    go_enter Try.func24, Try.ntmps24
    go_wp2_with fail
    go_at_call 28
    refine (hC).mono ?_
    rintro e w1 ⟨rfl, hb⟩
    go_wp2_with fail
    go_at_call 40
    refine (hD.out _ (HR.out.call hb)).mono ?_
    rintro e w2 ⟨rfl, hb2⟩
    go_wp2_with fail
    go_at_call 39
    refine (Abs_any _ _ (by omega) (by omega)).mono ?_
    rintro e w3 ⟨rfl, rfl⟩
    go_wp2_with fail
    go_ret2
    exact ⟨rfl, below_trans hb hb2⟩
  · have hv : indexV rows = 0 := by unfold indexV; rw [if_neg he]
    rw [hv]
    rw [errV_pos he] at hC ⊢
    generalize herErr rows = e at *
    clear hr hs he hv
    go_enter Try.func24, Try.ntmps24
    go_wp2_with fail
    go_at_call 28
    refine (hC).mono ?_
    rintro e w1 ⟨rfl, hb⟩
    go_wp2_with fail
    go_ret2
    exact ⟨rfl, hb⟩

theorem fact_one : hasErr [[2]] [4] = 0 ∧ hasV [[2]] [4] = true := by
  have e : hasErr [[2]] [4] = 0 := by decide +kernel
  refine ⟨e, ?_⟩
  unfold hasV
  rw [if_pos e]
  refine hasB_true ⟨fun _ => 2, fun j hj => ?_⟩
  obtain rfl : j = 0 := by have : j < 1 := hj; omega
  decide
theorem det_two (a b c d : Int) : G (-1) 2 (fn [[a, b], [c, d]]) = a * d - b * c := by
  simp [G, sumTo, pw, minor, sk, fn]
  grind
theorem lat_two {a b c d p q : Int} (h : a * d - b * c ≠ 0) : Lat 2 (fn [[a, b], [c, d]]) (fnL [p, q]) ↔ (a * d - b * c ∣ p * d - q * c ∧ a * d - b * c ∣ a * q - b * p) := by
  constructor
  · rintro ⟨f, hf⟩
    have h0 : p = f 0 * a + f 1 * c := by have := hf 0 (by omega); simp [sumTo, fn, fnL] at this; omega
    have h1 : q = f 0 * b + f 1 * d := by have := hf 1 (by omega); simp [sumTo, fn, fnL] at this; omega
    exact ⟨⟨f 0, by rw [h0, h1]; grind⟩, ⟨f 1, by rw [h0, h1]; grind⟩⟩
  · rintro ⟨⟨i, hi⟩, ⟨j, hj⟩⟩
    refine lat2 i j ?_ ?_
    · show p = i * a + j * c
      refine Int.eq_of_mul_eq_mul_left h ?_
      have : (a * d - b * c) * p = a * (p * d - q * c) + c * (a * q - b * p) := by grind
      rw [this, hi, hj]; grind
    · show q = i * b + j * d
      refine Int.eq_of_mul_eq_mul_left h ?_
      have : (a * d - b * c) * q = b * (p * d - q * c) + d * (a * q - b * p) := by grind
      rw [this, hi, hj]; grind
theorem has_two {a b c d p q : Int} (h : a * d - b * c ≠ 0) (he : hasErr [[a, b], [c, d]] [p, q] = 0) : hasV [[a, b], [c, d]] [p, q] = (dvB (p * d - q * c) (a * d - b * c) && dvB (a * q - b * p) (a * d - b * c)) := by
  unfold hasV
  rw [if_pos he]
  show hasB 2 _ _ = _
  by_cases hl : Lat 2 (fn [[a, b], [c, d]]) (fnL [p, q])
  · rw [hasB_true hl]
    obtain ⟨h1, h2⟩ := (lat_two h).1 hl
    simp [dvB, h1, h2]
  · rw [hasB_false hl]
    by_cases h1 : a * d - b * c ∣ p * d - q * c
    · have h2 : ¬ a * d - b * c ∣ a * q - b * p := fun h2 => hl ((lat_two h).2 ⟨h1, h2⟩)
      simp [dvB, h2]
    · simp [dvB, h1]

theorem one_row (w : World) (a : Int) (B b0 : Nat) (h0 : w.cell? ⟨B, 0, none⟩ = some (.slice (some ⟨b0, 0, none⟩) 1 1)) (x0 : w.cell? ⟨b0, 0, none⟩ = some (.int .i64 a)) : RowsAt w (some ⟨B, 0, none⟩) 1 [[a]] := by
  refine ⟨rfl, fun i hi => ?_⟩
  match i, hi with
  | 0, _ => exact ⟨B, 0, some ⟨b0, 0, none⟩, 1, rfl, by simpa using h0, by simp, by simp [maxLen], by simp, rfl, fun i hi => by match i, hi with | 0, _ => exact ⟨b0, 0, rfl, by simpa using x0⟩⟩
theorem IntsAt_one (w : World) (B : Nat) (x : Int) (h0 : w.cell? ⟨B, 0, none⟩ = some (.int .i64 x)) : IntsAt w (some ⟨B, 0, none⟩) 1 [x] := by
  refine ⟨rfl, fun i hi => ⟨B, 0, rfl, ?_⟩⟩
  match i, hi with
  | 0, _ => simpa using h0
/-- what lattice.Has answers to vectors that are right -/
theorem LHas_all {a b c d p q : Int} (h : vecsErr a b c d = 0) : ∃ (x : Bool) (e : Int), (∀ w, Calls Try.prog 27 #[vec a b, vec c d, vec p q] w fun e' w' => e' = .returned (.tuple #[.bool x, errV e]) ∧ Below w.heap.size w w') ∧
    (e = 0 → x = (dvB (p * d - q * c) (a * d - b * c) && dvB (a * q - b * p) (a * d - b * c))) := by
  cases hp : anyOut (-1000) 1000 [p, q]
  · exact ⟨_, 0, fun w => LHas_good h hp w, fun _ => rfl⟩
  · exact ⟨false, 1, fun w => LHas_far h hp w, fun h => by cases h⟩

set_option maxRecDepth 100000 in
set_option maxHeartbeats 4000000 in
theorem TopPlaces_any (a b c d p q : Int) (w : World) :
    Calls Try.prog 9 #[vec a b, vec c d, vec p q] w fun e w' => e = .returned (.bool true) ∧ Below w.heap.size w w' := by
  obtain ⟨f1, f2⟩ := fact_one
  have hF := Lib.hid (fun x y W (h : RowsAt W x 1 [[2]]) (h2 : IntsAt W y 1 [4]) => Has_any x y 1 1 1 1 [[2]] [4] W h h2 (by omega) ⟨by omega, by intro k hk; match k, hk with | 0, _ => simp⟩ (by omega))
  rw [f1, f2, errV_zero] at hF
  have hI := Lib.hid (fun x W (h : RowsAt W x 2 [[a, b], [c, d]]) => SIndex_any x 2 2 [[a, b], [c, d]] W h (by omega) (small2 _ _ _ _))
  have hH := Lib.hid (fun x y W (h : RowsAt W x 2 [[a, b], [c, d]]) (h2 : IntsAt W y 2 [p, q]) => Has_any x y 2 2 2 2 [[a, b], [c, d]] [p, q] W h h2 (by omega) (small2 _ _ _ _) (by omega))
  clear f1 f2
  by_cases hv : vecsErr a b c d = 0
  · have hA := Lib.hid (fun W => Area_good hv W)
    have hd0 := (vecsErr_good hv).2.2
    have hix : indexV [[a, b], [c, d]] = if herErr [[a, b], [c, d]] = 0 then ((a * d - b * c).natAbs : Int) else 0 := by
      unfold indexV
      show (if _ then ((G (-1) 2 (fn [[a, b], [c, d]])).natAbs : Int) else 0) = _
      rw [det_two]
    obtain ⟨x, e1, hL, hxe⟩ := LHas_all (p := p) (q := q) hv
    have hL := Lib.hid hL
    obtain ⟨D, hD⟩ : ∃ D : Int, D = ((a * d - b * c).natAbs : Int) := ⟨_, rfl⟩
    rw [← hD] at hA hix
    by_cases he : herErr [[a, b], [c, d]] = 0
    · rw [hix, if_pos he, he, errV_zero] at hI
      have hcase : errV e1 = .iface 56 (.int .i64 e1) ∨ errV e1 = .nilIface ∧ errV (hasErr [[a, b], [c, d]] [p, q]) = .iface 56 (.int .i64 (hasErr [[a, b], [c, d]] [p, q])) ∨ errV e1 = .nilIface ∧ errV (hasErr [[a, b], [c, d]] [p, q]) = .nilIface ∧ hasV [[a, b], [c, d]] [p, q] = x := by
        by_cases h1 : e1 = 0
        · right
          by_cases h2 : hasErr [[a, b], [c, d]] [p, q] = 0
          · right; exact ⟨by rw [h1]; rfl, by rw [h2]; rfl, by rw [has_two hd0 h2, hxe h1]⟩
          · left; exact ⟨by rw [h1]; rfl, errV_pos h2⟩
        · left; exact errV_pos h1
      have hee : errV (hasErr [[a, b], [c, d]] [p, q]) = .nilIface ∨ errV (hasErr [[a, b], [c, d]] [p, q]) = .iface 56 (.int .i64 (hasErr [[a, b], [c, d]] [p, q])) := by unfold errV; by_cases h : hasErr [[a, b], [c, d]] [p, q] = 0 <;> simp [h]
      generalize hasErr [[a, b], [c, d]] [p, q] = e2 at *
      generalize hasV [[a, b], [c, d]] [p, q] = y at *
      generalize errV e1 = v1 at *
      generalize errV e2 = v2 at *
      clear hv hd0 hix hD he hxe
      rcases hcase with h | ⟨h, h'⟩ | ⟨h, h', h''⟩
      case' inl => subst h; rcases hee with h | h <;> subst h
      case' inr.inl => subst h; subst h'; clear hee
      case' inr.inr => subst h; subst h'; subst h''; clear hee
      all_goals
        go_enter Try.func9, Try.ntmps9
        go_wp2_with fail
        go_at_call 26
        refine (hA.out _).mono ?_
        rintro e w1 ⟨rfl, hb⟩
        have hB := hb.mono (show w.heap.size + 3 ≤ _ from by simp)
        obtain ⟨hc, hf⟩ := rules hB
        have hz1 := hb.size
        simp only [World.size_alloc] at hz1
        clear hb
        go_wp2_with fail
        go_at_call 15
        refine (hF.out _ _ _ (one_row _ _ _ w1.heap.size (by go_simp) (by go_simp)) (IntsAt_one _ _ _ (by go_simp))).mono ?_
        rintro e w2 ⟨rfl, hb⟩
        have hB2 : Below (w.heap.size + 3) _ w2 := hB.trans (((((Below.refl w1.heap.size w1).alloc (Nat.le_refl _) _).alloc (by simp) _).alloc (by simp; omega) _).trans (hb.mono (by simp; omega)) |>.mono (by omega))
        have hz2 := hb.size
        simp only [World.size_alloc] at hz2
        have hq2 : w.heap.size + 1 + 1 < w2.heap.size := by omega
        have hq2a : w.heap.size + 1 < w2.heap.size := by omega
        have hq2b : w.heap.size < w2.heap.size := by omega
        clear hB hb hc hf
        obtain ⟨hc, hf⟩ := rules hB2
        go_wp2_with fail
        go_at_call 24
        refine (hI.out _ _ (two_rows _ _ _ _ _ _ w2.heap.size (w2.heap.size + 1) (by go_simp) (by go_simp) (by go_simp) (by go_simp) (by go_simp) (by go_simp))).mono ?_
        rintro e w3 ⟨rfl, hb⟩
        have hB3 : Below (w.heap.size + 3) _ w3 := hB2.trans (((((Below.refl w2.heap.size w2).alloc (Nat.le_refl _) _).alloc (by simp) _).alloc (by simp; omega) _).trans (hb.mono (by simp; omega)) |>.mono (by omega))

        have hz3 := hb.size
        simp only [World.size_alloc] at hz3
        have HRW := Lib.hid (show RowsAt w3 (some ⟨w2.heap.size + 1 + 1, 0, none⟩) 2 [[a, b], [c, d]] from (two_rows _ _ _ _ _ _ w2.heap.size (w2.heap.size + 1) (by go_simp) (by go_simp) (by go_simp) (by go_simp) (by go_simp) (by go_simp)).call hb)
        clear hB2 hb hc hf
        obtain ⟨hc, hf⟩ := rules hB3
        go_wp2_with fail
        go_at_call 27
        refine (hL.out _).mono ?_
        rintro e w4 ⟨rfl, hb⟩
        have hB4 := step_below hB3 (by simp) hb
        have HRW4 := Lib.hid (HRW.out.call hb)
        have hz4 := hb.size
        have hq4 : w.heap.size + 1 + 1 < w4.heap.size := by omega
        clear hB3 hb hc hf HRW
        obtain ⟨hc, hf⟩ := rules hB4
        go_wp2_with fail
        go_at_call 15
        refine (hH.out _ _ _ (HRW4.out.call ((Below.refl _ w4).alloc (Nat.le_refl _) _)) (IntsAt_two _ _ _ _ (by go_simp) (by go_simp))).mono ?_
        rintro e w5 ⟨rfl, hb⟩
        have hB5 : Below (w.heap.size + 3) _ w5 := hB4.trans (((Below.refl w4.heap.size w4).alloc (Nat.le_refl _) _).trans (hb.mono (by simp)) |>.mono (by omega))
        clear hB4 hb hc hf
        go_wp2_with fail
        go_ret
        exact ⟨rfl, ((((Below.refl _ _).alloc (Nat.le_refl _) _).alloc (by simp) _).alloc (by simp; omega) _).trans (hB5.mono (by omega))⟩
    · rw [hix, if_neg he, errV_pos he] at hI
      generalize herErr [[a, b], [c, d]] = e2 at *
      clear hv hd0 hix hD he hxe hL hH
      rcases (show (D == 0) = true ∨ (D == 0) = false by cases (D == 0) <;> simp) with hDc | hDc
      all_goals
        go_enter Try.func9, Try.ntmps9
        go_wp2_with fail
        go_at_call 26
        refine (hA.out _).mono ?_
        rintro e w1 ⟨rfl, hb⟩
        have hB := hb.mono (show w.heap.size + 3 ≤ _ from by simp)
        obtain ⟨hc, hf⟩ := rules hB
        have hz1 := hb.size
        simp only [World.size_alloc] at hz1
        clear hb
        go_wp2_with fail
        go_at_call 15
        refine (hF.out _ _ _ (one_row _ _ _ w1.heap.size (by go_simp) (by go_simp)) (IntsAt_one _ _ _ (by go_simp))).mono ?_
        rintro e w2 ⟨rfl, hb⟩
        have hB2 : Below (w.heap.size + 3) _ w2 := hB.trans (((((Below.refl w1.heap.size w1).alloc (Nat.le_refl _) _).alloc (by simp) _).alloc (by simp; omega) _).trans (hb.mono (by simp; omega)) |>.mono (by omega))
        have hz2 := hb.size
        simp only [World.size_alloc] at hz2
        have hq2 : w.heap.size + 1 + 1 < w2.heap.size := by omega
        have hq2a : w.heap.size + 1 < w2.heap.size := by omega
        have hq2b : w.heap.size < w2.heap.size := by omega
        clear hB hb hc hf
        obtain ⟨hc, hf⟩ := rules hB2
        go_wp2_with fail
        go_at_call 24
        refine (hI.out _ _ (two_rows _ _ _ _ _ _ w2.heap.size (w2.heap.size + 1) (by go_simp) (by go_simp) (by go_simp) (by go_simp) (by go_simp) (by go_simp))).mono ?_
        rintro e w3 ⟨rfl, hb⟩
        have hB3 : Below (w.heap.size + 3) _ w3 := hB2.trans (((((Below.refl w2.heap.size w2).alloc (Nat.le_refl _) _).alloc (by simp) _).alloc (by simp; omega) _).trans (hb.mono (by simp; omega)) |>.mono (by omega))

        clear hB2 hb hc hf
        go_wp2_with fail
        go_ret
        exact ⟨rfl, ((((Below.refl _ _).alloc (Nat.le_refl _) _).alloc (by simp) _).alloc (by simp; omega) _).trans (hB3.mono (by omega))⟩
  · have hA := Lib.hid (fun W => Area_wrong hv W)
    generalize vecsErr a b c d = e1 at *
    have hfe : errV (herErr [[a, b], [c, d]]) = .nilIface ∨ errV (herErr [[a, b], [c, d]]) = .iface 56 (.int .i64 (herErr [[a, b], [c, d]])) := by unfold errV; by_cases h : herErr [[a, b], [c, d]] = 0 <;> simp [h]
    generalize indexV [[a, b], [c, d]] = k at *
    generalize errV (herErr [[a, b], [c, d]]) = v2 at *
    clear hv hH hfe
    go_enter Try.func9, Try.ntmps9
    go_wp2_with fail
    go_at_call 26
    refine (hA.out _).mono ?_
    rintro e w1 ⟨rfl, hb⟩
    have hB := hb.mono (show w.heap.size + 3 ≤ _ from by simp)
    obtain ⟨hc, hf⟩ := rules hB
    have hz1 := hb.size
    simp only [World.size_alloc] at hz1
    clear hb
    go_wp2_with fail
    go_at_call 15
    refine (hF.out _ _ _ (one_row _ _ _ w1.heap.size (by go_simp) (by go_simp)) (IntsAt_one _ _ _ (by go_simp))).mono ?_
    rintro e w2 ⟨rfl, hb⟩
    have hB2 : Below (w.heap.size + 3) _ w2 := hB.trans (((((Below.refl w1.heap.size w1).alloc (Nat.le_refl _) _).alloc (by simp) _).alloc (by simp; omega) _).trans (hb.mono (by simp; omega)) |>.mono (by omega))
    have hz2 := hb.size
    simp only [World.size_alloc] at hz2
    have hq2 : w.heap.size + 1 + 1 < w2.heap.size := by omega
    have hq2a : w.heap.size + 1 < w2.heap.size := by omega
    have hq2b : w.heap.size < w2.heap.size := by omega
    clear hB hb hc hf
    obtain ⟨hc, hf⟩ := rules hB2
    go_wp2_with fail
    go_at_call 24
    refine (hI.out _ _ (two_rows _ _ _ _ _ _ w2.heap.size (w2.heap.size + 1) (by go_simp) (by go_simp) (by go_simp) (by go_simp) (by go_simp) (by go_simp))).mono ?_
    rintro e w3 ⟨rfl, hb⟩
    have hB3 : Below (w.heap.size + 3) _ w3 := hB2.trans (((((Below.refl w2.heap.size w2).alloc (Nat.le_refl _) _).alloc (by simp) _).alloc (by simp; omega) _).trans (hb.mono (by simp; omega)) |>.mono (by omega))

    clear hB2 hb hc hf
    go_wp2_with fail
    go_ret
    exact ⟨rfl, ((((Below.refl _ _).alloc (Nat.le_refl _) _).alloc (by simp) _).alloc (by simp; omega) _).trans (hB3.mono (by omega))⟩
theorem frame_own : ownKnob Try.prog.godebug = none := by kernel_rfl
theorem frame_laid : laidOutB Try.prog = true := by kernel_rfl
theorem frame_vec : Try.prog.cellsOf 50 = 2 := by kernel_rfl
set_option maxRecDepth 100000 in
theorem frame_lifted (os : Os) (started : os.Started) (H : Type) (enc : TypeId × Value → H) :
    ReturnsInHanded {} Try.checked os 9 .any (Rows.topPlacesSpec.pre6 enc Try.prog Try.f9 Rows.topPlacesRow.domain false) (Rows.topPlacesSpec.post enc Try.prog Try.f9 false true false false) := by
  refine returnsInHanded_of_change (C := Try.checked) frame_own started (by kernel_rfl) Try.func9
    (ChangeSpec.witness6 (enc := enc) (C := Try.checked) false ⟨#[], #[.agg #[.int .i64 0, .int .i64 0], .agg #[.int .i64 0, .int .i64 0], .agg #[.int .i64 0, .int .i64 0]], []⟩ 8 (by kernel_rfl) (by kernel_rfl) (by kernel_rfl) (by kernel_rfl)) ?_
  intro W base args ds gs before hval0 hW hcnd _
  have hval : ∀ (j : Nat) t v, Try.f9.params[j]? = some t → args[j]? = some v → Value.okWide Try.prog W .any base t v := hval0
  have hW' := hW
  obtain ⟨p, q, hA0, hV, rfl, hfz, hnd⟩ := hW
  have hA : DataW.TrodAll enc Try.prog W 0 (fun _ => true) true Try.f9.params.toList args.toList ds p := hA0
  rw [Try.params9] at hA hval
  obtain ⟨v0, vs0, d0, ds0, p0, q0, hargs, rfl, rfl, h0, r0⟩ := trodAll_cons hA
  obtain ⟨v1, vs1, d1, ds1, p1, q1, rfl, rfl, rfl, h1, r1⟩ := trodAll_cons r0
  obtain ⟨v2, vs2, d2, ds2, p2, q2, rfl, rfl, rfl, h2, r2⟩ := trodAll_cons r1
  obtain ⟨rfl, rfl, rfl⟩ := trodAll_nil r2
  obtain rfl : args = #[v0, v1, v2] := by cases args; simp_all
  obtain ⟨rfl, rfl⟩ := trodVars_none hV
  have k0 := h0
  have lt0 : ∀ x ∈ p0, x.block < W.heap.size := by obtain ⟨m, hm⟩ := k0; exact DataW.trod_lt m _ _ _ hm
  obtain ⟨c0, e0, y0, z0, m0, rfl, rfl, rfl, hy0, hz0⟩ := open_agg2 Try.underlying50 (by kernel_rfl) frame_vec (hval 0 50 v0 rfl rfl) h0
  obtain ⟨x0, f0, g0, wx0⟩ := DataW.trod_int Try.underlying3 hy0
  obtain rfl : c0 = .int .i64 x0 := by simpa using f0
  obtain ⟨t0, f0, g0, wt0⟩ := DataW.trod_int Try.underlying3 hz0
  obtain rfl : e0 = .int .i64 t0 := by simpa using f0
  have k1 := h1
  have lt1 : ∀ x ∈ p1, x.block < W.heap.size := by obtain ⟨m, hm⟩ := k1; exact DataW.trod_lt m _ _ _ hm
  obtain ⟨c1, e1, y1, z1, m1, rfl, rfl, rfl, hy1, hz1⟩ := open_agg2 Try.underlying50 (by kernel_rfl) frame_vec (hval 1 50 v1 rfl rfl) h1
  obtain ⟨x1, f1, g1, wx1⟩ := DataW.trod_int Try.underlying3 hy1
  obtain rfl : c1 = .int .i64 x1 := by simpa using f1
  obtain ⟨t1, f1, g1, wt1⟩ := DataW.trod_int Try.underlying3 hz1
  obtain rfl : e1 = .int .i64 t1 := by simpa using f1
  have k2 := h2
  have lt2 : ∀ x ∈ p2, x.block < W.heap.size := by obtain ⟨m, hm⟩ := k2; exact DataW.trod_lt m _ _ _ hm
  obtain ⟨c2, e2, y2, z2, m2, rfl, rfl, rfl, hy2, hz2⟩ := open_agg2 Try.underlying50 (by kernel_rfl) frame_vec (hval 2 50 v2 rfl rfl) h2
  obtain ⟨x2, f2, g2, wx2⟩ := DataW.trod_int Try.underlying3 hy2
  obtain rfl : c2 = .int .i64 x2 := by simpa using f2
  obtain ⟨t2, f2, g2, wt2⟩ := DataW.trod_int Try.underlying3 hz2
  obtain rfl : e2 = .int .i64 t2 := by simpa using f2
  clear hA0 hval0
  refine (TopPlaces_any x0 t0 x1 t1 x2 t2 W).mono fun e W' ⟨he, bel⟩ => ?_
  subst he
  exact ⟨_, rfl, _, _, _, [], _, [], hW', trodAll_mk1 (shut_bool Try.underlying4 _), (trodAll_cons_mk (Below.trod frame_laid (by kernel_rfl) (of_decide_eq_true (by kernel_rfl)) k0 bel lt0) (trodAll_cons_mk (Below.trod frame_laid (by kernel_rfl) (of_decide_eq_true (by kernel_rfl)) k1 bel lt1) (trodAll_cons_mk (Below.trod frame_laid (by kernel_rfl) (of_decide_eq_true (by kernel_rfl)) k2 bel lt2) trodAll_mk0))), rfl, bel.frame _, fun h => by cases h⟩

theorem TopPlaces_over : Rows.topPlacesRow.holds Try.pinned (OpenSpec.ofChange Rows.topPlacesSpec) :=
  OpenClaim.holds_of_wide 9 Try.f9 rfl rfl rfl rfl rfl rfl rfl ⟨rfl, rfl, rfl, rfl, rfl⟩ rfl rfl rfl rfl rfl (by kernel_rfl) Try.func9 (by kernel_rfl)
    (of_decide_eq_true (by kernel_rfl)) (by unfold Func.isWrapper; first | (rw [if_pos (by decide +kernel)]; kernel_rfl) | (rw [if_neg (by decide +kernel)]; exact ⟨rfl, rfl⟩))
    (fun os started H enc _ => frame_lifted os started H enc)

/-- THE STATEMENT -/
theorem TopPlaces_holds : Rows.TopPlacesSaid := TopPlaces_over
end Go.Proofs.Ytkoheljfbpjbaaa.TopPlacesP
