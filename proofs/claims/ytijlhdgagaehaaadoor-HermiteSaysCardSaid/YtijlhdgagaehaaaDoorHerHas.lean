/- Contract of hermite.Has. -/
import Derived.Test.YtijlhdgagaehaaaDoorHerFn
import Derived.Test.YtijlhdgagaehaaaDoorClone
import Derived.Test.YtijlhdgagaehaaaDoorAny
import Derived.Deep.LoopGhost
import Derived.StillTailTactics
namespace Go.Proofs.YtijlhdgagaehaaaDoor
open Go.RowKit
set_option linter.unusedVariables false
set_option linter.unusedSimpArgs false

/-- is x a sum of the rows? -/
noncomputable def hasB (n : Nat) (M : Nat → Nat → Int) (x : Nat → Int) : Bool := @decide (Lat n M x) (Classical.propDecidable _)
theorem hasB_true {n : Nat} {M : Nat → Nat → Int} {x : Nat → Int} (h : Lat n M x) : hasB n M x = true := by unfold hasB; exact @decide_eq_true _ (Classical.propDecidable _) h
theorem hasB_false {n : Nat} {M : Nat → Nat → Int} {x : Nat → Int} (h : ¬ Lat n M x) : hasB n M x = false := by unfold hasB; exact @decide_eq_false _ (Classical.propDecidable _) h
theorem hasB_iff {n : Nat} {M N : Nat → Nat → Int} {x y : Nat → Int} (h : Lat n M x ↔ Lat n N y) : hasB n M x = hasB n N y := by
  by_cases h1 : Lat n M x
  · rw [hasB_true h1, hasB_true (h.1 h1)]
  · rw [hasB_false h1, hasB_false (fun h2 => h1 (h.2 h2))]
/-- what is wrong with a call of Has -/
def hasErr (rows : List (List Int)) (x : List Int) : Int := if herErr rows ≠ 0 then herErr rows else if x.length ≠ rows.length then 3 else if anyOut (-100) 100 x = true then 1 else 0
/-- a list as a function -/
def fnL (x : List Int) : Nat → Int := fun j => x.getD j 0

theorem form_bd {n : Nat} {rows T : List (List Int)} (hk : HerOk n rows) (h : FormOf n (fn rows) (fn T)) : ∀ i j, i < n → j < n → 0 ≤ fn T i j ∧ fn T i j ≤ 48000 := by
  have hd := h.diag
  have hb := hk.bd
  have hle := diag_le n h.done.mid
  intro i j hi hj
  have h1 := hle j hj
  have h2 := h.done.mid j hj
  rw [hd] at h1
  have h3 : fn T j j ≤ 48000 := by split at h1 <;> omega
  rcases Nat.lt_trichotomy i j with h4 | h4 | h4
  · have := h.done.up i j h4 hj; omega
  · subst h4; omega
  · rw [h.done.low i j hj h4 hi]; omega
/-- how great the rest can be -/
def restB : Nat → Nat
  | 0 => 100
  | i + 1 => 48001 * restB i
theorem restB_le {i : Nat} (h : i ≤ 2) : restB i ≤ 300000000000 := by
  have : i = 0 ∨ i = 1 ∨ i = 2 := by omega
  rcases this with rfl | rfl | rfl <;> decide
/-- the rest, i rows being taken from it -/
structure Rest (n i : Nat) (T : Nat → Nat → Int) (x y : Nat → Int) : Prop where
  lat : Lat n T x ↔ Lat n T y
  zero : ∀ j, j < i → y j = 0
  bd : ∀ j, j < n → (y j).natAbs ≤ restB i
theorem Rest.next {n i : Nat} {T : Nat → Nat → Int} {x y : Nat → Int} (h : Rest n i T x y) (hd : Done n n T) (hi : i < n) (hb : ∀ i j, i < n → j < n → 0 ≤ T i j ∧ T i j ≤ 48000) (hm : (y i).tmod (T i i) = 0) :
    Rest n (i + 1) T x (fun j => y j - (y i).tdiv (T i i) * T i j) ∧ ∀ j, j < n → ((y i).tdiv (T i i) * T i j).natAbs ≤ 48000 * restB i := by
  obtain ⟨k, hk⟩ : ∃ k, k = (y i).tdiv (T i i) := ⟨_, rfl⟩
  have hka : k.natAbs ≤ restB i := by
    have h1 := h.bd i hi
    rw [hk, Int.natAbs_tdiv]
    exact Nat.le_trans (Nat.div_le_self _ _) h1
  have hki : k * T i i = y i := by
    have := Int.tmod_add_mul_tdiv (y i) (T i i)
    rw [hm, Int.mul_comm] at this
    rw [hk]; omega
  rw [← hk]
  have hp : ∀ j, j < n → (k * T i j).natAbs ≤ 48000 * restB i := fun j hj => by
    have := hb i j hi hj
    rw [Int.natAbs_mul, Nat.mul_comm]
    exact Nat.mul_le_mul (by omega) hka
  refine ⟨⟨?_, fun j hj => ?_, fun j hj => ?_⟩, hp⟩
  · rw [h.lat]
    constructor
    · intro hl
      refine lat_congr (lat_lin hl (lat_row T hi) 1 (-k)) (fun _ _ _ _ => rfl) (fun j hj => ?_)
      show 1 * y j + -k * T i j = y j - k * T i j
      rw [Int.neg_mul]; omega
    · intro hl
      refine lat_congr (lat_lin hl (lat_row T hi) 1 k) (fun _ _ _ _ => rfl) (fun j hj => ?_)
      show 1 * (y j - k * T i j) + k * T i j = y j
      omega
  · show y j - k * T i j = 0
    by_cases hji : j < i
    · rw [h.zero j hji, hd.low i j (by omega) hji hi]; simp
    · obtain rfl : j = i := by omega
      omega
  · have h1 := hp j hj
    have h2 := h.bd j hj
    show (y j - k * T i j).natAbs ≤ 48001 * restB i
    omega

/-- integers of the call's own: their block, their cells, a store -/
theorem OwnInts.block {w : World} {B : Nat} {v : Value} {xs : List Int} (h : OwnInts w B v xs) (hp : 0 < xs.length) : ∃ g cap, v = .slice (Option.some ⟨g, 0, none⟩) xs.length cap ∧ B ≤ g ∧ g < w.heap.size := by
  have h' : w.ownsRow B 3 1 v xs.length (xs.map (Value.int .i64)) := h
  rcases h.2 with ⟨_, hn⟩ | ⟨g, cap, cur, rfl, hg, _⟩
  · omega
  · exact ⟨g, cap, rfl, hg, (h'.lt g rfl).2⟩
theorem OwnInts.put {w : World} {B g n cap : Nat} {xs : List Int} (h : OwnInts w B (.slice (Option.some ⟨g, 0, none⟩) n cap) xs) : n = xs.length ∧ ∀ j, j < n → w.cell? ⟨g, j, none⟩ = some (.int .i64 (fnL xs j)) ∧ w.frozen? ⟨g, j, none⟩ = false ∧ ∀ x, OwnInts (w.setCell ⟨g, j, none⟩ (.int .i64 x)) B (.slice (Option.some ⟨g, 0, none⟩) n cap) (xs.set j x) := by
  have hn : n = xs.length := by
    rcases h.2 with ⟨h1, _⟩ | ⟨g', cap', cur, h1, _⟩
    · simp at h1
    · simp at h1; exact h1.2.1
  subst hn
  have ho : w.ownsRow B 3 1 (.slice (Option.some ⟨g, 0, none⟩) xs.length cap) xs.length (xs.map (Value.int .i64)) := h
  refine ⟨rfl, fun j hj => ⟨?_, ho.frozenAt j, fun x => ?_⟩⟩
  · rw [ho.cellAt j (by omega)]
    simp [hj, fnL, List.getD]
  · have st := ho.stored j (.int .i64 x)
    unfold OwnInts
    rw [List.length_set, List.map_set]
    exact st.1
theorem fnL_set (y : List Int) (j : Nat) (x : Int) (hj : j < y.length) (b : Nat) : fnL (y.set j x) b = if b = j then x else fnL y b := by
  unfold fnL
  by_cases h : j = b
  · subst h; rw [getD_set_eq _ _ _ _ hj, if_pos rfl]
  · rw [getD_set_ne _ _ _ _ _ h, if_neg (fun h2 => h h2.symm)]
theorem Rest.congr {n i : Nat} {T : Nat → Nat → Int} {x y z : Nat → Int} (h : Rest n i T x y) (hi : i ≤ n) (he : ∀ j, j < n → z j = y j) : Rest n i T x z :=
  ⟨h.lat.trans ⟨fun k => lat_congr k (fun _ _ _ _ => rfl) (fun j hj => (he j hj).symm), fun k => lat_congr k (fun _ _ _ _ => rfl) he⟩, fun j hj => by rw [he j (by omega)]; exact h.zero j hj, fun j hj => by rw [he j hj]; exact h.bd j hj⟩

set_option maxRecDepth 100000 in
theorem Has_bad (a ax : Option Addr) (n cap m capx : Nat) (rows : List (List Int)) (x : List Int) (w : World) (hr : RowsAt w a n rows) (hx : IntsAt w ax m x) (hcap : n ≤ cap) (hs : Small n rows) (hm : m ≤ 9223372036854775807) (he : hasErr rows x ≠ 0) :
    Calls Tryd.prog 13 #[.slice a n cap, .slice ax m capx] w fun e w' => e = .returned (.tuple #[.bool false, errV (hasErr rows x)]) ∧ Below w.heap.size w w' := by
  have hC := HCheck_any a n cap rows w hr hcap hs
  by_cases h1 : herErr rows = 0
  · have hk := herErr_good hr.1 h1
    rw [h1, errV_zero] at hC
    have hp := hk.pos
    obtain ⟨b, off, rfl, hb⟩ := hr.some hp
    obtain ⟨ra, rc, hc, e1, e2, e3, e4⟩ := hr.row hp
    rw [hk.sq.2 0 hp] at hc
    rw [Nat.add_zero] at hc
    have hl1 := hr.1
    have hl2 := hx.1
    have hn0 : (0 : Int) < n := by omega
    by_cases h2 : m = n
    · have h3 : anyOut (-100) 100 x = true := by
        unfold hasErr at he
        cases h3 : anyOut (-100) 100 x
        · rw [if_neg (by simp [h1]), if_neg (by omega), if_neg (by rw [h3]; decide)] at he; exact absurd rfl he
        · rfl
      have hv : hasErr rows x = 1 := by unfold hasErr; rw [if_neg (by simp [h1]), if_neg (by omega), if_pos h3]
      rw [hv, errV_pos (by decide)]
      subst h2
      have HA := Lib.hid (fun W (h : IntsAt W ax m x) => Any_any ax m capx x (-100) 100 W h (by omega))
      rw [h3] at HA
      have HX := Lib.hid hx
      clear hr hx hs he h1 hk e1 e2 e3 e4 hv h3 hl1 hl2
      go_enter Tryd.func13, Tryd.ntmps13
      go_wp2_with fail
      go_at_call 6
      refine (hC).mono ?_
      rintro e w1 ⟨rfl, hb1⟩
      rw [← hb1.cell (p := ⟨b, off, none⟩) hb] at hc
      go_wp2_with fail
      go_at_call 28
      refine (HA.out _ (HX.out.call hb1)).mono ?_
      rintro e w2 ⟨rfl, rfl⟩
      go_wp2_with fail
      go_ret2
      exact ⟨rfl, hb1⟩
    · have hv : hasErr rows x = 3 := by unfold hasErr; rw [if_neg (by simp [h1]), if_pos (by omega)]
      rw [hv, errV_pos (by decide)]
      have hmn : ((m : Int) != (n : Int)) = true := by simp; omega
      clear hr hx hs he h1 hk e1 e2 e3 e4 hv hl1 hl2 h2
      go_enter Tryd.func13, Tryd.ntmps13
      go_wp2_with fail
      go_at_call 6
      refine (hC).mono ?_
      rintro e w1 ⟨rfl, hb1⟩
      rw [← hb1.cell (p := ⟨b, off, none⟩) hb] at hc
      go_wp2_with fail
      go_ret2
      exact ⟨rfl, hb1⟩
  · have hv : hasErr rows x = herErr rows := by unfold hasErr; rw [if_pos h1]
    rw [hv]
    rw [errV_pos h1] at hC ⊢
    generalize herErr rows = e at *
    clear hr hx hs he h1 hv
    go_enter Tryd.func13, Tryd.ntmps13
    go_wp2_with fail
    go_at_call 6
    refine (hC).mono ?_
    rintro e w1 ⟨rfl, hb⟩
    go_wp2_with fail
    go_ret2
    exact ⟨rfl, hb⟩

set_option maxRecDepth 100000 in
set_option maxHeartbeats 2000000 in
theorem Has_good (a ax : Option Addr) (n cap m capx : Nat) (rows : List (List Int)) (x : List Int) (w : World) (hr : RowsAt w a n rows) (hx : IntsAt w ax m x) (hcap : n ≤ cap) (hs : Small n rows) (he : hasErr rows x = 0) :
    Calls Tryd.prog 13 #[.slice a n cap, .slice ax m capx] w fun e w' => e = .returned (.tuple #[.bool (hasB n (fn rows) (fnL x)), .nilIface]) ∧ Below w.heap.size w w' := by
  have hC := HCheck_any a n cap rows w hr hcap hs
  have h1 : herErr rows = 0 := by
    unfold hasErr at he
    by_cases h : herErr rows = 0
    · exact h
    · rw [if_pos h] at he; exact he
  have hk := herErr_good hr.1 h1
  have hl1 := hr.1
  have hl2 := hx.1
  have h2 : m = n := by
    unfold hasErr at he
    rw [if_neg (by simp [h1])] at he
    by_cases h : x.length = rows.length
    · omega
    · rw [if_pos h] at he; cases he
  have h3 : anyOut (-100) 100 x = false := by
    unfold hasErr at he
    rw [if_neg (by simp [h1]), if_neg (by omega)] at he
    cases h : anyOut (-100) 100 x
    · rfl
    · rw [if_pos h] at he; cases he
  have hp := hk.pos
  have hn3 := hk.le
  subst h2
  have hxb : ∀ j, j < m → (fnL x j).natAbs ≤ 100 := fun j hj => by
    have hm : x[j]'(by omega) ∈ x := List.getElem_mem _
    have e : fnL x j = x[j]'(by omega) := by simp [fnL, List.getD, show j < x.length by omega]
    have ho : outB (-100) 100 (x[j]'(by omega)) = false := by
      cases ho : outB (-100) 100 (x[j]'(by omega))
      · rfl
      · have : anyOut (-100) 100 x = true := List.any_eq_true.2 ⟨_, hm, ho⟩
        rw [h3] at this; cases this
    simp [outB] at ho
    rw [e]; omega
  obtain ⟨b, off, rfl, hb⟩ := hr.some hp
  obtain ⟨bx, ox, rfl, hbx, hcx⟩ := hx.some hp
  obtain ⟨ra, rc, hc, e1, e2, e3, e4⟩ := hr.row hp
  rw [hk.sq.2 0 hp] at hc
  rw [Nat.add_zero] at hc
  have HA := Lib.hid (fun W (h : IntsAt W (some ⟨bx, ox, none⟩) m x) => Any_any (some ⟨bx, ox, none⟩) m capx x (-100) 100 W h (by omega))
  rw [h3] at HA
  rw [h1, errV_zero] at hC
  have HX := Lib.hid hx
  have HXB := Lib.hid hxb
  have HK := Lib.hid hk
  have HR := Lib.hid hr
  have HCL := Lib.hid (fun W (h : IntsAt W (some ⟨bx, ox, none⟩) m x) => Clone_any bx ox m capx x W h (by omega))
  have HF := Lib.hid (fun W (h : RowsAt W (some ⟨b, off, none⟩) m rows) => Form_of m (some ⟨b, off, none⟩) cap rows W hp hn3 hcap hk.sq (fun a b _ _ => hk.ent a b) hk.det h)
  have hn0 : (0 : Int) < m := by omega
  clear hr hx hs he h1 hk e1 e2 e3 e4 h3 hl1 hl2 hxb hcx
  go_enter Tryd.func13, Tryd.ntmps13
  go_wp2_with fail
  go_at_call 6
  refine (hC).mono ?_
  rintro e w1 ⟨rfl, hb1⟩
  rw [← hb1.cell (p := ⟨b, off, none⟩) hb] at hc
  go_wp2_with fail
  go_at_call 28
  refine (HA.out _ (HX.out.call hb1)).mono ?_
  rintro e w2 ⟨rfl, rfl⟩
  go_wp2_with fail
  go_at_call 29
  refine (HCL.out _ (HX.out.call hb1)).mono ?_
  rintro e w3 ⟨⟨v, rfl, ho⟩, hb3⟩
  have hB3 := below_trans hb1 hb3
  have hlx := (HX.out).1
  obtain ⟨g, capv, rfl, hg1, hg2⟩ := ho.block (by omega)
  rw [hlx] at ho ⊢
  have hz1 := hb1.size
  have HO := Lib.hid ho
  clear ho hb1 hb3 hc hlx
  go_wp2_with fail
  go_at_call 22
  refine (HF.out _ (HR.out.call hB3)).mono ?_
  rintro e w4 ⟨⟨G', vs, T, rfl, hT1, hT2, hT3⟩, hb4⟩
  have hB4 := below_trans hB3 hb4
  have HO4 := Lib.hid (HO.out.call hb4)
  have HT1 := Lib.hid hT1
  have HT2 := Lib.hid hT2
  have HT3 := Lib.hid hT3
  have HBD := Lib.hid (form_bd HK.out hT3)
  have HR0 := Lib.hid (show Rest m 0 (fn T) (fnL x) (fnL x) from ⟨Iff.rfl, fun j hj => by omega, fun j hj => HXB.out j hj⟩)
  clear hT1 hT2 hT3 hb4 hB3 HO
  go_wp2_with fail
  go_loopg [34] (m + 1) (fun gg i wr => ∃ (k : Nat) (y : List Int), k ≤ m ∧ m - k < gg ∧ i = .int .i64 k ∧ OwnInts wr w1.heap.size (.slice (some ⟨g, 0, none⟩) m capv) y ∧ OwnRowsV wr (w3.heap.size + 1) (.slice (some ⟨G', 0, none⟩) m m) vs T ∧ Rest m k (fn T) (fnL x) (fnL y) ∧ Below w.heap.size w wr)
  case atStart => exact ⟨0, x, by omega, by omega, rfl, HO4.out, HT1.out, HR0.out, hB4⟩
  case round =>
    obtain ⟨k, y, hk, hgk, rfl, ho, ht, hr, hbel⟩ := hrel
    clear HO4 HT1 HR0 hB4
    have HO := Lib.hid ho
    have HT := Lib.hid ht
    have HRE := Lib.hid hr
    clear ho ht hr
    by_cases hlt : k < m
    · obtain ⟨gt, rt, hh, hg3, hg4, hg5, hg6, _, hcd, _⟩ := HT.out.at HT2.out hlt hlt
      obtain ⟨hyl, hput⟩ := HO.out.put
      obtain ⟨hcy, _, _⟩ := hput k hlt
      have hdp := HT3.out.done.mid k hlt
      obtain ⟨bd1, bd2⟩ := HBD.out k k hlt hlt
      have yb := HRE.out.bd k hlt
      have rb := restB_le (i := k) (by omega)
      obtain ⟨d, hd⟩ : ∃ d, d = fn T k k := ⟨_, rfl⟩
      obtain ⟨z, hz⟩ : ∃ z, z = fnL y k := ⟨_, rfl⟩
      rw [← hd] at hcd hdp bd2
      rw [← hz] at hcy yb
      have hd0 : d ≠ 0 := by omega
      have hde : (d == 0) = false := by simp [hd0]
      have hk0 : (0 : Int) ≤ k := by omega
      have hk1 : (k : Int) < m := by omega
      have z1 := World.block_lt_of_cell? _ _ hcy
      have z2 := World.block_lt_of_cell? _ _ hcd
      dsimp only at z1 z2
      have HD := Lib.hid hd
      have HZ := Lib.hid hz
      obtain ⟨r, hrr⟩ : ∃ r, z.tmod d = r := ⟨_, rfl⟩
      have hrb := tmod_bd z d (by omega)
      rw [hrr] at hrb
      obtain ⟨hrb1, hrb2⟩ := hrb
      have hwr : IntKind.i64.wrap r = r := IntWalk.i64_in _ (by omega)
      have HRR := Lib.hid hrr
      have HG6 := Lib.hid hg6
      clear hput hg5 hg6 hd hz hyl
      by_cases hr0 : r = 0
      · have hrn : (r != 0) = false := by simp [hr0]
        obtain ⟨n1, n2⟩ := HRE.out.next HT3.out.done hlt HBD.out (by rw [← HD.out, ← HZ.out, HRR.out]; exact hr0)
        rw [← HD.out, ← HZ.out] at n1 n2
        have qb := natAbs_tdiv_le z d
        obtain ⟨q, hq⟩ : ∃ q, z.tdiv d = q := ⟨_, rfl⟩
        rw [hq] at n1 n2 qb
        have hwq : IntKind.i64.wrap q = q := IntWalk.i64_in _ (by omega)
        have HN1 := Lib.hid n1
        have HN2 := Lib.hid n2
        clear n1 n2 qb
        go_wp2_with fail
        refine wp_region_quiet (C := Cls wr.heap.size wr) (by kernel_rfl) (by kernel_rfl) Cls.start ?_
        repeat
          (refine wpQuiet_step (fun K hK => ?_)
           go_simp
           first
             | (refine hK _ ?_; clear hK K)
             | (apply Exists.intro
                refine ⟨fun w' hC => ?_, hK _ ?_⟩
                · (obtain ⟨hr, hr2⟩ := hC.rules
                   first
                     | (fail)
                     | (go_simp; done)
                     | (go_simp; rfl))
                clear hK K))
        refine wpQuiet_nil ?_
        intro W5 hW5
        obtain ⟨hcc5, hff5⟩ := hW5.rules
        go_wp2_with fail
        refine wp_region_quiet (C := Cls wr.heap.size W5) (by kernel_rfl) (by kernel_rfl) Cls.start ?_
        repeat
          (refine wpQuiet_step (fun K hK => ?_)
           go_simp
           first
             | (refine hK _ ?_; clear hK K)
             | (apply Exists.intro
                refine ⟨fun w' hC => ?_, hK _ ?_⟩
                · (obtain ⟨hr, hr2⟩ := hC.rules
                   first
                     | (fail)
                     | (go_simp; done)
                     | (go_simp; rfl))
                clear hK K))
        refine wpQuiet_nil ?_
        intro W6 hW6
        have hb6 : Below wr.heap.size wr W6 := hW5.trans hW6
        have HO6 := Lib.hid (HO.out.call hb6)
        have HT6 := Lib.hid (HT.out.call hb6)
        have hB6 := below_trans hbel hb6
        clear hcc5 hff5 hbel hb6
        go_wp2_with fail
        go_loopg [60] (m + 1) (fun gg i wr => ∃ (j : Nat) (u : List Int), j ≤ m ∧ m - j < gg ∧ i = .int .i64 j ∧ OwnInts wr w1.heap.size (.slice (some ⟨g, 0, none⟩) m capv) u ∧ OwnRowsV wr (w3.heap.size + 1) (.slice (some ⟨G', 0, none⟩) m m) vs T ∧ (∀ b, b < m → fnL u b = if b < j then fnL y b - q * fn T k b else fnL y b) ∧ Below w.heap.size w wr)
        case atStart => exact ⟨0, y, by omega, by omega, rfl, HO6.out, HT6.out, fun b _ => by rw [if_neg (by omega)], hB6⟩
        case round =>
          obtain ⟨j, u, hj, hgj, rfl, ho, ht, hu, hbel⟩ := hrel
          clear HO6 HT6 hB6
          have HO := Lib.hid ho
          have HT := Lib.hid ht
          have HU := Lib.hid hu
          clear ho ht hu
          by_cases hjm : j < m
          · obtain ⟨gt', rt', hh', _, _, _, hg6', _, hcd', _⟩ := HT.out.at HT2.out hlt hjm
            obtain ⟨rfl, rfl⟩ : gt = gt' ∧ rt = rt' := by have := HG6.out.symm.trans hg6'; simp at this; exact this
            obtain ⟨hul, hput⟩ := HO.out.put
            obtain ⟨hcu, hfu, hst⟩ := hput j hjm
            have huj := HU.out j hjm
            rw [if_neg (by omega)] at huj
            rw [huj] at hcu
            have yb2 := HRE.out.bd j hjm
            have pb := HN2.out j hjm
            obtain ⟨a1, ha1⟩ : ∃ z, z = fnL y j := ⟨_, rfl⟩
            obtain ⟨t1, ht1⟩ : ∃ z, z = fn T k j := ⟨_, rfl⟩
            rw [← ha1] at hcu yb2
            rw [← ht1] at hcd' pb
            obtain ⟨p, hp⟩ : ∃ p, p = q * t1 := ⟨_, rfl⟩
            rw [← hp] at pb
            have hw1 : IntKind.i64.wrap (q * t1) = p := by rw [← hp]; exact IntWalk.i64_in _ (by omega)
            have hw2 : IntKind.i64.wrap (a1 - p) = a1 - p := IntWalk.i64_in _ (by omega)
            have hj0 : (0 : Int) ≤ j := by omega
            have hj1 : (j : Int) < m := by omega
            have HST := Lib.hid (hst (a1 - p))
            have HTS := Lib.hid (HT.out.storeLow (g := g) (by omega) j (.int .i64 (a1 - p)))
            have HUN := Lib.hid (show ∀ b, b < m → fnL (u.set j (a1 - p)) b = if b < j + 1 then fnL y b - q * fn T k b else fnL y b from fun b hb => by
              rw [fnL_set u j _ (by omega)]
              by_cases h : b = j
              · rw [if_pos h, if_pos (by omega), h, ← ha1, ← ht1, hp]
              · rw [if_neg h, HU.out b hb]
                by_cases h2 : b < j
                · rw [if_pos h2, if_pos (by omega)]
                · rw [if_neg h2, if_neg (by omega)])
            have hbs := (hbel.setCell (p := ⟨g, j, none⟩) (by show w.heap.size ≤ g; omega) (.int .i64 (a1 - p)))
            clear hul hput hst huj ha1 ht1 hp hg6' yb2 pb
            go_wp2_with fail
            go_still_tail 11, (by kernel_rfl)
            go_wp2_with fail
            go_roundg (m - j)
            case measure => omega
            case rel => exact ⟨j + 1, _, by omega, by omega, by go_num, HST.out.call Cls.start, HTS.out.call Cls.start, HUN.out, hbs.trans Cls.start⟩
          · obtain rfl : j = m := by omega
            go_wp2_with fail
            go_roundg (j - k)
            case measure => omega
            case rel => exact ⟨k + 1, u, by omega, by omega, by go_num, HO.out, HT.out, HN1.out.congr (by omega) (fun b hb => by rw [HU.out b hb, if_pos hb]), hbel⟩
      · have hrn : (r != 0) = true := by simp [hr0]
        have hfin : hasB m (fn rows) (fnL x) = false := by
          refine hasB_false fun hl => hr0 ?_
          have hl2 := HRE.out.lat.1 ((HT3.out.like.1 _).1 hl)
          have := done_dvd HT3.out.done hl2 hlt HRE.out.zero
          rw [← HD.out, ← HZ.out] at this
          rw [← HRR.out]
          exact Int.tmod_eq_zero_of_dvd this
        have HFIN := Lib.hid hfin
        clear hfin
        go_wp2_with fail
        refine wp_region_quiet (C := Cls wr.heap.size wr) (by kernel_rfl) (by kernel_rfl) Cls.start ?_
        repeat
          (refine wpQuiet_step (fun K hK => ?_)
           go_simp
           first
             | (refine hK _ ?_; clear hK K)
             | (apply Exists.intro
                refine ⟨fun w' hC => ?_, hK _ ?_⟩
                · (obtain ⟨hr, hr2⟩ := hC.rules
                   first
                     | (fail)
                     | (go_simp; done)
                     | (go_simp; rfl))
                clear hK K))
        refine wpQuiet_nil ?_
        intro W5 hW5
        have hB5 := below_trans hbel hW5
        go_wp2_with fail
        go_ret2
        exact ⟨by rw [HFIN.out]; rfl, hB5⟩
    · obtain rfl : k = m := by omega
      have hfin : hasB k (fn rows) (fnL x) = true := by
        refine hasB_true ((HT3.out.like.1 _).2 (HRE.out.lat.2 ?_))
        exact lat_congr (lat_zero k (fn T)) (fun _ _ _ _ => rfl) (fun j hj => (HRE.out.zero j hj).symm)
      have HFIN := Lib.hid hfin
      clear hfin
      go_wp2_with fail
      go_ret2
      exact ⟨by rw [HFIN.out]; rfl, hbel⟩
/-- what hermite.Has answers -/
noncomputable def hasV (rows : List (List Int)) (x : List Int) : Bool := if hasErr rows x = 0 then hasB rows.length (fn rows) (fnL x) else false
set_option maxRecDepth 100000 in
theorem Has_any (a ax : Option Addr) (n cap m capx : Nat) (rows : List (List Int)) (x : List Int) (w : World) (hr : RowsAt w a n rows) (hx : IntsAt w ax m x) (hcap : n ≤ cap) (hs : Small n rows) (hm : m ≤ 9223372036854775807) :
    Calls Tryd.prog 13 #[.slice a n cap, .slice ax m capx] w fun e w' => e = .returned (.tuple #[.bool (hasV rows x), errV (hasErr rows x)]) ∧ Below w.heap.size w w' := by
  by_cases he : hasErr rows x = 0
  · have hv : hasV rows x = hasB n (fn rows) (fnL x) := by unfold hasV; rw [if_pos he, hr.1]
    rw [hv, he]
    exact Has_good a ax n cap m capx rows x w hr hx hcap hs he
  · have hv : hasV rows x = false := by unfold hasV; rw [if_neg he]
    rw [hv]
    exact Has_bad a ax n cap m capx rows x w hr hx hcap hs hm he
end Go.Proofs.YtijlhdgagaehaaaDoor
