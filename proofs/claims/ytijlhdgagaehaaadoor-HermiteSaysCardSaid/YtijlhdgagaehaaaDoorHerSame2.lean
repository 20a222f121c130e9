/- Contracts of slices.Equal, slices.EqualFunc, hermite.Same for any rows. -/
import Derived.Test.YtijlhdgagaehaaaDoorHerSame
namespace Go.Proofs.YtijlhdgagaehaaaDoor
open Go.RowKit
set_option linter.unusedVariables false
set_option linter.unusedSimpArgs false

theorem list_ext0 {n : Nat} {xs ys : List Int} (h1 : xs.length = n) (h2 : ys.length = n) (h : ∀ i, i < n → xs.getD i 0 = ys.getD i 0) : xs = ys := by
  apply List.ext_getElem (by omega)
  intro i k1 k2
  have := h i (by omega)
  simpa [List.getD, k1, k2] using this
theorem rows_ext0 {n : Nat} {A B : List (List Int)} (h1 : A.length = n) (h2 : B.length = n) (h : ∀ i, i < n → A.getD i [] = B.getD i []) : A = B := by
  apply List.ext_getElem (by omega)
  intro i k1 k2
  have := h i (by omega)
  simpa [List.getD, k1, k2] using this

set_option maxRecDepth 100000 in
set_option maxHeartbeats 1000000 in
theorem Equal_any (a b : Option Addr) (n cap cap' : Nat) (xs ys : List Int) (w : World) (ha : IntsAt w a n xs) (hb : IntsAt w b n ys) (hn : n ≤ 1000000) :
    Calls Tryd.prog 26 #[.slice a n cap, .slice b n cap'] w fun e w' => e = .returned (.bool (decide (xs = ys))) ∧ Below w.heap.size w w' := by
  have HA := Lib.hid ha
  have HB := Lib.hid hb
  obtain ⟨r, hr⟩ : ∃ r, r = decide (xs = ys) := ⟨_, rfl⟩
  rw [← hr]
  have HR := Lib.hid hr
  clear ha hb hr
  go_enter Tryd.func26, Tryd.ntmps26
  go_wp2_with fail
  go_loopg [13] (n + 1) (fun g i wr => ∃ k : Nat, k ≤ n ∧ n - k < g ∧ i = .int .i64 k ∧ RowKit.Hid (∀ i, i < k → xs.getD i 0 = ys.getD i 0) ∧ Below w.heap.size w wr)
  case atStart => exact ⟨0, by omega, by omega, rfl, Lib.hid (fun i hi => by omega), Below.refl _ _⟩
  case round =>
    obtain ⟨k, hk, hg, rfl, HP, hbel⟩ := hrel
    by_cases hlt : k < n
    · obtain ⟨b1, o1, rfl, c1⟩ := (HA.out.call hbel).2 k hlt
      obtain ⟨b2, o2, rfl, c2⟩ := (HB.out.call hbel).2 k hlt
      have hk0 : (0 : Int) ≤ k := by omega
      have hk1 : (k : Int) < n := by omega
      obtain ⟨x, hx⟩ : ∃ x, x = xs.getD k 0 := ⟨_, rfl⟩
      obtain ⟨y, hy⟩ : ∃ y, y = ys.getD k 0 := ⟨_, rfl⟩
      rw [← hx] at c1
      rw [← hy] at c2
      have HX := Lib.hid (show x = xs.getD k 0 ∧ y = ys.getD k 0 from ⟨hx, hy⟩)
      have z1 := World.block_lt_of_cell? _ _ c1
      have z2 := World.block_lt_of_cell? _ _ c2
      dsimp only at z1 z2
      clear hx hy
      by_cases hxy : x = y
      · have hxb : (x != y) = false := by simp [hxy]
        have HN := Lib.hid (show ∀ i, i < k + 1 → xs.getD i 0 = ys.getD i 0 from fun i hi => by
          by_cases h : i < k
          · exact HP.out i h
          · obtain rfl : i = k := by omega
            rw [← HX.out.1, ← HX.out.2, hxy])
        clear hxy
        go_wp2_with fail
        refine wp_region_quiet (C := Cls wr.heap.size wr) (by kernel_rfl) (by kernel_rfl) Cls.start ?_
        repeat
          (refine wpQuiet_step (fun K hK => ?_)
           go_simp
           first
             | (refine hK _ ?_; clear hK K)
             | (apply Exists.intro
                refine ⟨fun w' hC => ?_, hK _ ?_⟩
                · (obtain ⟨hr, hr2⟩ := hC.rules
                   first
                     | (fail)
                     | (go_simp; done)
                     | (go_simp; rfl))
                clear hK K))
        refine wpQuiet_nil ?_
        intro w2 hw2
        have hB2 := below_trans hbel hw2
        go_wp2_with fail
        go_roundg (n - k)
        case measure => omega
        case rel => exact ⟨k + 1, by omega, by omega, by go_num, HN, hB2⟩
      · have hxb : (x != y) = true := by simp [hxy]
        have hrf : r = false := by
          rw [HR.out, decide_eq_false_iff_not]
          intro h; apply hxy; rw [HX.out.1, HX.out.2, h]
        have HRF := Lib.hid hrf
        clear hxy hrf
        go_wp2_with fail
        refine wp_region_quiet (C := Cls wr.heap.size wr) (by kernel_rfl) (by kernel_rfl) Cls.start ?_
        repeat
          (refine wpQuiet_step (fun K hK => ?_)
           go_simp
           first
             | (refine hK _ ?_; clear hK K)
             | (apply Exists.intro
                refine ⟨fun w' hC => ?_, hK _ ?_⟩
                · (obtain ⟨hr, hr2⟩ := hC.rules
                   first
                     | (fail)
                     | (go_simp; done)
                     | (go_simp; rfl))
                clear hK K))
        refine wpQuiet_nil ?_
        intro w2 hw2
        have hB2 := below_trans hbel hw2
        go_wp2_with fail
        go_ret
        exact ⟨by rw [HRF.out]; rfl, hB2⟩
    · obtain rfl : n = k := by omega
      have hrt : r = true := by rw [HR.out, decide_eq_true_iff]; exact list_ext0 HA.out.1 HB.out.1 HP.out
      have HRT := Lib.hid hrt
      clear hrt
      go_wp2_with fail
      go_ret
      exact ⟨by rw [HRT.out]; rfl, hbel⟩

set_option maxRecDepth 100000 in
set_option maxHeartbeats 1000000 in
theorem EqualFunc_any (a b : Option Addr) (n cap cap' : Nat) (A B : List (List Int)) (w : World) (ha : RowsAt w a n A) (hb : RowsAt w b n B) (hn : n ≤ 1000) (hsA : Sq n A) (hsB : Sq n B) :
    Calls Tryd.prog 25 #[.slice a n cap, .slice b n cap', .func (.func 26) #[] #[]] w fun e w' => e = .returned (.bool (decide (A = B))) ∧ Below w.heap.size w w' := by
  have HA := Lib.hid ha
  have HB := Lib.hid hb
  have HSA := Lib.hid hsA
  have HSB := Lib.hid hsB
  obtain ⟨r, hr⟩ : ∃ r, r = decide (A = B) := ⟨_, rfl⟩
  rw [← hr]
  have HR := Lib.hid hr
  clear ha hb hsA hsB hr
  go_enter Tryd.func25, Tryd.ntmps25
  go_wp2_with fail
  go_loopg [17] (n + 1) (fun g i wr => ∃ k : Nat, k ≤ n ∧ n - k < g ∧ i = .int .i64 k ∧ RowKit.Hid (∀ i, i < k → A.getD i [] = B.getD i []) ∧ Below w.heap.size w wr)
  case atStart => exact ⟨0, by omega, by omega, rfl, Lib.hid (fun i hi => by omega), Below.refl _ _⟩
  case round =>
    obtain ⟨k, hk, hg, rfl, HP, hbel⟩ := hrel
    by_cases hlt : k < n
    · obtain ⟨b1, o1, ra, rc, rfl, c1, e1, e2, e3, e4⟩ := (HA.out.call hbel).2 k hlt
      obtain ⟨b2, o2, ra2, rc2, rfl, c2, e1', e2', e3', e4'⟩ := (HB.out.call hbel).2 k hlt
      rw [HSA.out.2 k hlt] at c1 e4
      rw [HSB.out.2 k hlt] at c2 e4'
      have hk0 : (0 : Int) ≤ k := by omega
      have hk1 : (k : Int) < n := by omega
      have HI := Lib.hid (Equal_any ra ra2 n rc rc2 (A.getD k []) (B.getD k []) wr e4 e4' (by omega))
      obtain ⟨x, hx⟩ : ∃ x, x = A.getD k [] := ⟨_, rfl⟩
      obtain ⟨y, hy⟩ : ∃ y, y = B.getD k [] := ⟨_, rfl⟩
      rw [← hx, ← hy] at HI
      have HX := Lib.hid (show x = A.getD k [] ∧ y = B.getD k [] from ⟨hx, hy⟩)
      clear e1 e2 e3 e4 e1' e2' e3' e4' hx hy
      by_cases hxy : x = y
      · have HN := Lib.hid (show ∀ i, i < k + 1 → A.getD i [] = B.getD i [] from fun i hi => by
          by_cases h : i < k
          · exact HP.out i h
          · obtain rfl : i = k := by omega
            rw [← HX.out.1, ← HX.out.2, hxy])
        rw [decide_eq_true hxy] at HI
        clear hxy
        go_wp2_with fail
        go_at_call 26
        refine HI.out.mono ?_
        rintro e w2 ⟨rfl, hb2⟩
        have hB2 := below_trans hbel hb2
        go_wp2_with fail
        go_roundg (n - k)
        case measure => omega
        case rel => exact ⟨k + 1, by omega, by omega, by go_num, HN, hB2⟩
      · have hrf : r = false := by
          rw [HR.out, decide_eq_false_iff_not]
          intro h; apply hxy; rw [HX.out.1, HX.out.2, h]
        have HRF := Lib.hid hrf
        rw [decide_eq_false hxy] at HI
        clear hxy hrf
        go_wp2_with fail
        go_at_call 26
        refine HI.out.mono ?_
        rintro e w2 ⟨rfl, hb2⟩
        have hB2 := below_trans hbel hb2
        go_wp2_with fail
        go_ret
        exact ⟨by rw [HRF.out]; rfl, hB2⟩
    · obtain rfl : n = k := by omega
      have hrt : r = true := by rw [HR.out, decide_eq_true_iff]; exact rows_ext0 HA.out.1 HB.out.1 HP.out
      have HRT := Lib.hid hrt
      clear hrt
      go_wp2_with fail
      go_ret
      exact ⟨by rw [HRT.out]; rfl, hbel⟩

/-- what is wrong with two rows' comparison -/
def sameErr (A B : List (List Int)) : Int := if herErr A ≠ 0 then herErr A else if herErr B ≠ 0 then herErr B else if A.length ≠ B.length then 3 else 0
/-- the same sums? -/
noncomputable def sameB (n : Nat) (M N : Nat → Nat → Int) : Bool := @decide (∀ x, Lat n M x ↔ Lat n N x) (Classical.propDecidable _)

set_option maxRecDepth 100000 in
set_option maxHeartbeats 1000000 in
theorem Same_ok (a b : Option Addr) (n cap cap' : Nat) (rows next : List (List Int)) (w : World) (hr : RowsAt w a n rows) (hr' : RowsAt w b n next) (hcap : n ≤ cap) (hcap' : n ≤ cap') (hs : Small n rows) (hs' : Small n next) (he : herErr rows = 0) (he' : herErr next = 0) :
    Calls Tryd.prog 11 #[.slice a n cap, .slice b n cap'] w fun e w' => e = .returned (.tuple #[.bool (sameB n (fn rows) (fn next)), .nilIface]) ∧ Below w.heap.size w w' := by
  have hk := herErr_good hr.1 he
  have hk' := herErr_good hr'.1 he'
  have hC := Lib.hid (fun W (h : RowsAt W a n rows) => HCheck_any a n cap rows W h hcap hs)
  have hC' := Lib.hid (fun W (h : RowsAt W b n next) => HCheck_any b n cap' next W h hcap' hs')
  rw [he, errV_zero] at hC
  rw [he', errV_zero] at hC'
  have hF := Lib.hid (fun W (h : RowsAt W a n rows) => Form_of n a cap rows W hk.pos hk.le hcap hk.sq (fun a b _ _ => hk.ent a b) hk.det h)
  have hF' := Lib.hid (fun W (h : RowsAt W b n next) => Form_of n b cap' next W hk'.pos hk'.le hcap' hk'.sq (fun a b _ _ => hk'.ent a b) hk'.det h)
  have HR := Lib.hid hr
  have HR' := Lib.hid hr'
  obtain ⟨r, hrr⟩ : ∃ r, r = sameB n (fn rows) (fn next) := ⟨_, rfl⟩
  rw [← hrr]
  have HRR := Lib.hid hrr
  have hn3 := hk.le
  clear hr hr' hs hs' he he' hk hk' hrr
  go_enter Tryd.func11, Tryd.ntmps11
  go_wp2_with fail
  go_at_call 6
  refine (hC.out _ HR.out).mono ?_
  rintro e w1 ⟨rfl, hb1⟩
  go_wp2_with fail
  go_at_call 6
  refine (hC'.out _ (HR'.out.call hb1)).mono ?_
  rintro e w2 ⟨rfl, hb2⟩
  have hB2 := below_trans hb1 hb2
  clear hb1 hb2
  go_wp2_with fail
  go_at_call 24
  refine (First_two _ 0 0 _ (by rw [errV_zero]; go_simp) (by rw [errV_zero]; go_simp)).mono ?_
  rintro e w3 ⟨rfl, rfl⟩
  have hB3 := hB2.alloc hB2.size (.cells #[.nilIface, .nilIface] 27)
  have HB3 := Lib.hid hB3
  rw [show errV (if (0 : Int) ≠ 0 then 0 else 0) = .nilIface from rfl]
  clear hB3
  go_wp2_with fail
  go_at_call 22
  refine (hF.out _ (HR.out.call HB3.out)).mono ?_
  rintro e w4 ⟨⟨G1, vs1, T1, rfl, h11, h12, h13⟩, hb4⟩
  have hB4 := below_trans HB3.out hb4
  have hra1 := h11.read
  rw [h12.1] at hra1
  have H1 := Lib.hid hra1
  clear h11 hb4
  go_wp2_with fail
  go_at_call 22
  refine (hF'.out _ (HR'.out.call hB4)).mono ?_
  rintro e w5 ⟨⟨G2, vs2, T2, rfl, h21, h22, h23⟩, hb5⟩
  have hB5 := below_trans hB4 hb5
  have hra2 := h21.read
  rw [h22.1] at hra2
  have hval : decide (T1 = T2) = r := by
    rw [HRR.out]
    unfold sameB
    by_cases h : ∀ x, Lat n (fn rows) x ↔ Lat n (fn next) x
    · rw [@decide_eq_true _ (Classical.propDecidable _) h]
      exact decide_eq_true (sq_ext h12 h22 (h13.one h23 h))
    · rw [@decide_eq_false _ (Classical.propDecidable _) h]
      refine decide_eq_false fun e => h ?_
      subst e
      intro x
      exact (h13.like.1 x).trans (h23.like.1 x).symm
  have HE := Lib.hid (EqualFunc_any (some ⟨G1, 0, none⟩) (some ⟨G2, 0, none⟩) n n n T1 T2 w5 (H1.out.call hb5) hra2 (by omega) h12 h22)
  rw [hval] at HE
  clear h21 h12 h13 h22 h23 hb5 hra1 hra2 hval
  go_wp2_with fail
  go_at_call 25
  refine HE.out.mono ?_
  rintro e w6 ⟨rfl, hb6⟩
  go_wp2_with fail
  go_ret2
  exact ⟨rfl, below_trans hB5 hb6⟩

set_option maxRecDepth 100000 in
set_option maxHeartbeats 1000000 in
theorem Same_bad (a b : Option Addr) (n m cap cap' : Nat) (rows next : List (List Int)) (w : World) (hr : RowsAt w a n rows) (hr' : RowsAt w b m next) (hcap : n ≤ cap) (hcap' : m ≤ cap') (hs : Small n rows) (hs' : Small m next) (he : sameErr rows next ≠ 0) :
    Calls Tryd.prog 11 #[.slice a n cap, .slice b m cap'] w fun e w' => e = .returned (.tuple #[.bool false, errV (sameErr rows next)]) ∧ Below w.heap.size w w' := by
  have hC := Lib.hid (fun W (h : RowsAt W a n rows) => HCheck_any a n cap rows W h hcap hs)
  have hC' := Lib.hid (fun W (h : RowsAt W b m next) => HCheck_any b m cap' next W h hcap' hs')
  have HR := Lib.hid hr
  have HR' := Lib.hid hr'

  by_cases hf : (if herErr rows ≠ 0 then herErr rows else herErr next) = 0
  · have h1 : herErr rows = 0 := by
      by_cases h : herErr rows = 0
      · exact h
      · rw [if_pos h] at hf; exact absurd hf h
    have h2 : herErr next = 0 := by rw [if_neg (by omega)] at hf; exact hf
    have h3 : sameErr rows next = 3 := by
      unfold sameErr at he ⊢
      rw [if_neg (by omega), if_neg (by omega)] at he ⊢
      by_cases hl : rows.length ≠ next.length
      · rw [if_pos hl]
      · rw [if_neg hl] at he; exact absurd rfl he
    have hnm : ((n : Int) != (m : Int)) = true := by
      have hl : rows.length ≠ next.length := by
        intro hl
        unfold sameErr at h3
        rw [if_neg (by omega), if_neg (by omega), if_neg (by simp [hl])] at h3
        cases h3
      rw [hr.1, hr'.1] at hl
      simp; omega
    rw [h3, errV_pos (by decide)]
    rw [h1, errV_zero] at hC
    rw [h2, errV_zero] at hC'
    clear hr hr' hs hs' he hf h1 h2 h3
    go_enter Tryd.func11, Tryd.ntmps11
    go_wp2_with fail
    go_at_call 6
    refine (hC.out _ HR.out).mono ?_
    rintro e w1 ⟨rfl, hb1⟩
    go_wp2_with fail
    go_at_call 6
    refine (hC'.out _ (HR'.out.call hb1)).mono ?_
    rintro e w2 ⟨rfl, hb2⟩
    have hB2 := below_trans hb1 hb2
    clear hb1 hb2
    go_wp2_with fail
    go_at_call 24
    refine (First_two _ 0 0 _ (by rw [errV_zero]; go_simp) (by rw [errV_zero]; go_simp)).mono ?_
    rintro e w3 ⟨rfl, rfl⟩
    have hB3 := hB2.alloc hB2.size (.cells #[.nilIface, .nilIface] 27)
    have HB3 := Lib.hid hB3
    rw [show errV (if (0 : Int) ≠ 0 then 0 else 0) = .nilIface from rfl]
    clear hB3
    go_wp2_with fail
    go_ret2
    exact ⟨rfl, HB3.out⟩
  · have h3 : sameErr rows next = (if herErr rows ≠ 0 then herErr rows else herErr next) := by
      unfold sameErr
      by_cases h : herErr rows ≠ 0
      · rw [if_pos h, if_pos h]
      · rw [if_neg h, if_neg h]
        rw [if_neg h] at hf
        rw [if_pos hf]
    rw [h3]
    have hE := errV_pos hf
    generalize herErr rows = x at *
    generalize herErr next = y at *
    obtain ⟨v, hv⟩ : ∃ v, v = (if x ≠ 0 then x else y) := ⟨_, rfl⟩
    rw [← hv] at hE hf ⊢
    have HV := Lib.hid hv
    have hxe : errV x = .nilIface ∨ errV x = .iface 40 (.int .i64 x) := by unfold errV; by_cases h : x = 0 <;> simp [h]
    have hye : errV y = .nilIface ∨ errV y = .iface 40 (.int .i64 y) := by unfold errV; by_cases h : y = 0 <;> simp [h]
    have HE := Lib.hid hE
    rw [hE]
    clear hr hr' hs hs' he hf h3 hv hE
    rcases hxe with hxe | hxe <;> rcases hye with hye | hye
    all_goals
      rw [hxe] at hC
      rw [hye] at hC'
      have HX := Lib.hid hxe
      have HY := Lib.hid hye
      clear hxe hye
      go_enter Tryd.func11, Tryd.ntmps11
      go_wp2_with fail
      go_at_call 6
      refine (hC.out _ HR.out).mono ?_
      rintro e w1 ⟨rfl, hb1⟩
      go_wp2_with fail
      go_at_call 6
      refine (hC'.out _ (HR'.out.call hb1)).mono ?_
      rintro e w2 ⟨rfl, hb2⟩
      have hB2 := below_trans hb1 hb2
      clear hb1 hb2
      go_wp2_with fail
      go_at_call 24
      refine (First_two _ x y _ (by rw [HX.out]; go_simp) (by rw [HY.out]; go_simp)).mono ?_
      rintro e w3 ⟨rfl, rfl⟩
      have HB2 := Lib.hid hB2
      clear hB2
      rw [← HV.out, HE.out]
      go_wp2_with fail
      go_ret2
      exact ⟨rfl, below_trans HB2.out ((Below.refl _ _).alloc (Nat.le_refl _) _)⟩
end Go.Proofs.YtijlhdgagaehaaaDoor
