/- Contract of bareiss.Leading. -/
import Derived.Test.YtkelnkcigbghkaaBareFn
import Derived.Test.YtkelnkcigbghkaaSnoc
namespace Go.Proofs.Ytkelnkcigbghkaa
open Go.RowKit
set_option linter.unusedVariables false
set_option linter.unusedSimpArgs false

/-- the leading minors -/
def leadL (rows : List (List Int)) (k : Nat) : List Int := (List.range k).map fun t => G (-1) (t + 1) (fn rows)
theorem leadL_succ (rows : List (List Int)) (k : Nat) : leadL rows (k + 1) = leadL rows k ++ [G (-1) (k + 1) (fn rows)] := by simp [leadL, List.range_succ]
theorem leadL_len (rows : List (List Int)) (k : Nat) : (leadL rows k).length = k := by simp [leadL]
/-- the first k rows, and of each the first k numbers -/
def partL (rows : List (List Int)) (k l : Nat) : List (List Int) := (List.range l).map fun i => (rows.getD i []).take k
theorem partL_len (rows : List (List Int)) (k l : Nat) : (partL rows k l).length = l := by simp [partL]
theorem partL_at (rows : List (List Int)) (k l : Nat) {i : Nat} (h : i < l) : (partL rows k l).getD i [] = (rows.getD i []).take k := by simp [partL, List.getD, h]
theorem part_sq {n : Nat} {rows : List (List Int)} (h : Sq n rows) {k : Nat} (hk : k ≤ n) : Sq k (partL rows k k) := ⟨partL_len _ _ _, fun i hi => by rw [partL_at _ _ _ hi, List.length_take, h.2 i (by omega)]; omega⟩
theorem part_fn (rows : List (List Int)) (k : Nat) {i j : Nat} (hi : i < k) (hj : j < k) : fn (partL rows k k) i j = fn rows i j := by
  unfold fn
  rw [partL_at _ _ _ hi, List.getD_eq_getElem?_getD, List.getElem?_take, if_pos hj, ← List.getD_eq_getElem?_getD]
theorem part_ent {B : Int} (hB : 0 ≤ B) {rows : List (List Int)} (h : Ent B rows) (k : Nat) : Ent B (partL rows k k) := by
  intro i j
  by_cases hi : i < k
  · rw [partL_at _ _ _ hi, List.getD_eq_getElem?_getD, List.getElem?_take]
    by_cases hj : j < k
    · rw [if_pos hj, ← List.getD_eq_getElem?_getD]; exact h i j
    · rw [if_neg hj]; simp; omega
  · have e : (partL rows k k).getD i [] = [] := by rw [List.getD_eq_getElem?_getD, List.getElem?_eq_none (by rw [partL_len]; omega)]; rfl
    rw [e]; simp; omega
/-- l slices, each the beginning of a row -/
def PartAt (w : World) (rows : List (List Int)) (k : Nat) (vs : List Value) (l : Nat) : Prop := vs.length = l ∧ ∀ i, i < l → ∃ ra rc, vs.getD i undef = .slice ra k rc ∧ k ≤ rc ∧ rc ≤ maxLen ∧ (ra = none → rc = 0) ∧ IntsAt w ra k ((rows.getD i []).take k)
theorem PartAt.nil (w : World) (rows : List (List Int)) (k : Nat) : PartAt w rows k [] 0 := ⟨rfl, fun i hi => by omega⟩
theorem PartAt.snoc {w : World} {rows : List (List Int)} {k l : Nat} {vs : List Value} (h : PartAt w rows k vs l) {ra : Option Addr} {rc : Nat} (h1 : k ≤ rc) (h2 : rc ≤ maxLen) (h3 : ra = none → rc = 0) (h4 : IntsAt w ra k ((rows.getD l []).take k)) : PartAt w rows k (vs ++ [.slice ra k rc]) (l + 1) := by
  refine ⟨by rw [List.length_append, h.1]; rfl, fun i hi => ?_⟩
  by_cases e : i = l
  · subst e
    exact ⟨ra, rc, by simp [List.getD, ← h.1], h1, h2, h3, h4⟩
  · have : (vs ++ [Value.slice ra k rc]).getD i undef = vs.getD i undef := by simp [List.getD, List.getElem?_append_left (show i < vs.length by rw [h.1]; omega)]
    rw [this]
    exact h.2 i (by omega)
theorem PartAt.rows {w wr : World} {rows : List (List Int)} {k l B : Nat} {vs : List Value} {v : Value} (h : PartAt w rows k vs l) (ho : OwnVals wr B v vs) (hb : Below w.heap.size w wr) : ∃ a cap, v = .slice a l cap ∧ l ≤ cap ∧ RowsAt wr a l (partL rows k l) := by
  obtain ⟨a, cap, rfl, h1, h2, h3⟩ := ho.cell
  rw [h.1] at h1 h3 ⊢
  refine ⟨a, cap, rfl, h1, partL_len _ _ _, fun i hi => ?_⟩
  obtain ⟨g, hg, hc⟩ := h3 i hi
  obtain ⟨ra, rc, e, e1, e2, e3, e4⟩ := h.2 i hi
  have hl : ((rows.getD i []).take k).length = k := e4.1
  rw [partL_at _ _ _ hi, hl]
  exact ⟨g, 0, ra, rc, hg, by rw [Nat.zero_add, hc, e], e1, e2, e3, e4.call hb⟩
theorem ints_take {w : World} {a : Option Addr} {n k : Nat} {xs : List Int} (h : IntsAt w a n xs) (hk : k ≤ n) : IntsAt w a k (xs.take k) := by
  refine ⟨by rw [List.length_take, h.1]; omega, fun i hi => ?_⟩
  obtain ⟨b, off, ha, hc⟩ := h.2 i (by omega)
  refine ⟨b, off, ha, ?_⟩
  rw [hc, List.getD_eq_getElem?_getD, List.getD_eq_getElem?_getD, List.getElem?_take, if_pos hi]

set_option maxHeartbeats 2000000 in
theorem Leading_good (a : Option Addr) (n cap : Nat) (rows : List (List Int)) (w : World) (hr : RowsAt w a n rows) (hcap : n ≤ cap) (hs : Small n rows) (he : sqErr rows 5 (-9) 9 = 0) :
    Calls Try.prog 7 #[.slice a n cap] w fun e w' => (∃ v, e = .returned (.tuple #[v, .nilIface]) ∧ OwnInts w' w.heap.size v (leadL rows n)) ∧ Below w.heap.size w w' := by
  have hG := BCheck_any a n cap rows w hr hs
  obtain ⟨ii, hi, hz0, hz1, hz2⟩ := info_parts info_int
  obtain ⟨ji, hj, hy0, hy1, hy2⟩ := info_parts info_ints
  have hsq := good_sq he
  have hent := good_ent (B := 9) (by omega) he
  have hl := hr.1
  obtain ⟨h1, h2, h3⟩ := sqErr_good he
  rw [hl] at hsq h2 h1
  rw [he, errV_zero] at hG
  obtain ⟨b, off, rfl, hb⟩ := hr.some (by omega)
  have HG := Lib.hid hG
  have HR := Lib.hid hr
  have HSQ := Lib.hid hsq
  have HENT := Lib.hid hent
  have hci : (n : Int) ≤ cap := by omega
  clear hG hr hs he hsq hent hl h3
  go_enter Try.func7, Try.ntmps7
  go_wp2_with fail
  go_at_call 13
  refine (HG.out).mono ?_
  rintro e w1 ⟨rfl, rfl⟩
  go_wp2_with fail
  go_loopg [5, 6] (n + 1) (fun g v i wr => ∃ k : Nat, k ≤ n ∧ n - k < g ∧ i = .int .i64 ((k : Int) + 1) ∧ OwnInts wr w.heap.size v (leadL rows k) ∧ Below w.heap.size w wr)
  case atStart => exact ⟨0, by omega, by omega, rfl, OwnInts.nil _ _, Below.refl _ _⟩
  case round =>
    obtain ⟨k, hk, hg, rfl, hown, hbel⟩ := hrel
    obtain ⟨wo, rfl⟩ : ∃ wo : World, wo = wr := ⟨_, rfl⟩
    have HOWN := Lib.hid hown
    have HBEL := Lib.hid hbel
    have hwz := hbel.size
    clear hown hbel
    by_cases hlt : k < n
    · have hki : (k : Int) + 1 ≤ n := by omega
      have hk0 : (0 : Int) ≤ (k : Int) + 1 := by omega
      have hkc : (k : Int) + 1 ≤ cap := by omega
      have hkn : ((k : Int) + 1).toNat = k + 1 := by omega
      go_wp2_with fail
      go_loopg [7, 25] (n + 2) (fun g v i wr => ∃ (l : Nat) (vs : List Value), l ≤ k + 1 ∧ n + 1 - l < g ∧ i = .int .i64 l ∧ OwnVals wr wo.heap.size v vs ∧ PartAt w rows (k + 1) vs l ∧ Below wo.heap.size wo wr)
      case atStart => exact ⟨0, [], by omega, by omega, rfl, World.ownsRow_nil _ _ _ _, PartAt.nil _ _ _, Below.refl _ _⟩
      case round =>
        obtain ⟨l, vs, hl, hg, rfl, hvs, hpa, hbel⟩ := hrel
        have HVS := Lib.hid hvs
        have HPA := Lib.hid hpa
        have HB := Lib.hid hbel
        have hsz := hbel.size
        have hvl := hpa.1
        clear hvs hpa hbel
        by_cases hlt2 : l < k + 1
        · obtain ⟨ra, rc, hc1, hrc, hrm, hrn, hrow⟩ := HR.out.row (i := l) (by omega)
          rw [HSQ.out.2 l (by omega)] at hc1 hrc hrow
          have hc2 : wr.cell? ⟨b, off + l, none⟩ = some (.slice ra n rc) := by rw [(below_trans HBEL.out HB.out).cell (p := ⟨b, off + l, none⟩) hb]; exact hc1
          obtain ⟨b2, off2, rfl, hb2, _⟩ := hrow.some (by omega)
          have hli : (l : Int) < (k : Int) + 1 := by omega
          have hrci : (k : Int) + 1 ≤ rc := by omega
          have hpn := HPA.out.snoc (ra := some ⟨b2, off2, none⟩) (rc := rc) (by omega) hrm hrn (ints_take hrow (by omega))
          have HPN := Lib.hid hpn
          have HVL := Lib.hid hvl
          have hvl5 : vs.length ≤ 5 := by omega
          clear hrow hc1 hpn hrn hvl
          go_wp2_with (at_builtin; refine wpList_append_own1 (o := ⟨some 34, _, _, _, _, _⟩) rfl _ _ 31 rfl wo.heap.size 30 ji (.slice none 0 0) 24 Try.underlying31 hj hy0 hy1 hy2 rfl _ vs.length vs rfl (HVS.out.alloc _) (some ⟨wr.heap.size, 0, none⟩) 1 1 [.slice (some ⟨b2, off2, none⟩) (k + 1) rc] rfl rfl (fun h => by cases h) (one_new _ _ _) (one_slice _ _ _) (by unfold maxLen; omega) (by omega) (le_alloc hsz _) ?_; intro v3 w3 hown3 hgrow3)
          have hv3 : OwnVals w3 wo.heap.size v3 (vs ++ [.slice (some ⟨b2, off2, none⟩) (k + 1) rc]) := by unfold OwnVals; rw [List.length_append]; exact hown3
          have hbel3 : Below wo.heap.size wo w3 := HB.out.trans (((Below.refl wo.heap.size wr).alloc hsz _).trans (grown_below hgrow3 (le_alloc hsz _) (fun q hq => (World.ownsRow.lt HVS.out q hq).1)))
          go_roundg (n + 1 - l)
          case measure => omega
          case rel => exact ⟨l + 1, _, by omega, by omega, by go_num, hv3, HPN.out, hbel3⟩
        · obtain rfl : l = k + 1 := by omega
          obtain ⟨a2, c2, rfl, hc2, hrows⟩ := HPA.out.rows HVS.out (below_trans HBEL.out HB.out)
          have hof := Bareiss_of (k + 1) a2 c2 (partL rows (k + 1) (k + 1)) wr (by omega) (by omega) hc2 (part_sq HSQ.out (by omega)) (part_ent (by omega) HENT.out _) hrows
          rw [G_congr (-1) (k + 1) (fun i j hi hj => part_fn rows (k + 1) hi hj)] at hof
          have HLS := Lib.hid (leadL_succ rows k)
          obtain ⟨D, hD⟩ : ∃ D, D = G (-1) (k + 1) (fn rows) := ⟨_, rfl⟩
          rw [← hD] at hof HLS
          have HOF := Lib.hid hof
          have HLL := Lib.hid (leadL_len rows k)
          have hll5 : (leadL rows k).length ≤ 5 := by rw [leadL_len]; omega
          have HOW2 := Lib.hid (HOWN.out.call HB.out)
          clear hof hD hrows
          go_wp2_with (first
            | (go_at_call 14; refine HOF.out.mono ?_; rintro e w4 ⟨rfl, hb4⟩; have HB4 := Lib.hid hb4; have hz4 := hb4.size; clear hb4)
            | (at_builtin; refine wpList_append_own1 (o := ⟨some 40, _, _, _, _, _⟩) rfl _ _ 30 rfl w.heap.size 3 ii (.int .i64 0) 8 Try.underlying30 hi hz0 hz1 hz2 rfl _ (leadL rows k).length ((leadL rows k).map (Value.int .i64)) rfl (World.ownsRow.alloc (HOW2.out.call HB4.out) _) (some ⟨w4.heap.size, 0, none⟩) 1 1 [.int .i64 D] rfl rfl (fun h => by cases h) (one_new _ _ _) (one_int _ _) (by unfold maxLen; omega) (by omega) (le_alloc (by omega) _) ?_; intro v5 w5 hown5 hgrow5))
          have ho5 : OwnInts w5 w.heap.size v5 (leadL rows (k + 1)) := by rw [HLS.out]; exact OwnInts.snoc rfl hown5
          have hb4' : Below w.heap.size w w4 := below_trans (below_trans HBEL.out HB.out) HB4.out
          have hbel5 : Below w.heap.size w w5 := hb4'.trans (((Below.refl w.heap.size w4).alloc hb4'.size _).trans (grown_below hgrow5 (le_alloc hb4'.size _) (fun q hq => (World.ownsRow.lt (HOW2.out.call HB4.out) q hq).1)))
          clear hown5 hgrow5
          go_roundg (n - k)
          case measure => omega
          case rel => exact ⟨k + 1, by omega, by omega, by go_num, ho5, hbel5⟩
    · obtain rfl : k = n := by omega
      obtain ⟨a3, c3, rfl, _, _, _, _⟩ := HOWN.out.shape
      go_wp2_with fail
      go_ret2
      exact ⟨⟨_, rfl, HOWN.out⟩, HBEL.out⟩
end Go.Proofs.Ytkelnkcigbghkaa
