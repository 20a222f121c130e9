/- Contract of the reference's Apart: all families of paths, column by column. -/
import Derived.Test.YtbojcbpmalgdlaaDoorHApMath
import Derived.Test.YtbojcbpmalgdlaaDoorHHeights
import Derived.Test.YtbojcbpmalgdlaaDoorSnoc
import Derived.Deep.LoopGhost
namespace Go.Proofs.YtbojcbpmalgdlaaDoor
open Go.RowKit
set_option linter.unusedVariables false
set_option linter.unusedSimpArgs false

def InR (l : List Int) : Prop := ∀ i, 0 ≤ l.getD i 0 ∧ l.getD i 0 ≤ 6
theorem InR.snoc {l : List Int} {x : Int} (h : InR l) (h0 : 0 ≤ x) (h6 : x ≤ 6) : InR (l ++ [x]) := by
  intro i
  rw [List.getD_eq_getElem?_getD, List.getElem?_append]
  by_cases hi : i < l.length
  · rw [if_pos hi, ← List.getD_eq_getElem?_getD]; exact h i
  · rw [if_neg hi]
    by_cases e : i - l.length = 0
    · rw [e]; exact ⟨h0, h6⟩
    · rw [List.getElem?_eq_none (by simp; omega)]; simp
theorem InR.nil : InR [] := fun i => by simp
theorem ap_out {nx : List Int → Int} {to_ come leave : List Int} {k : Nat} (h : to_.getD leave.length 0 < come.getD leave.length 0 ∨ (if leave.length + 1 < come.length then come.getD (leave.length + 1) 0 - 1 else 6) < to_.getD leave.length 0) :
    apIn nx true to_ come (k + 1) leave = 0 := by rw [apIn, if_pos rfl, if_pos h]
theorem ap_in {nx : List Int → Int} {to_ come leave : List Int} {k : Nat} (h : ¬ (to_.getD leave.length 0 < come.getD leave.length 0 ∨ (if leave.length + 1 < come.length then come.getD (leave.length + 1) 0 - 1 else 6) < to_.getD leave.length 0)) :
    apIn nx true to_ come (k + 1) leave = upS (to_.getD leave.length 0) (fun h => apIn nx true to_ come k (leave ++ [h])) (to_.getD leave.length 0 + 1) := by rw [apIn, if_pos rfl, if_neg h]
theorem ap_pos {nx : List Int → Int} {to_ come leave : List Int} {k : Nat} :
    apIn nx false to_ come (k + 1) leave = upS (come.getD leave.length 0) (fun h => apIn nx false to_ come k (leave ++ [h])) ((if leave.length + 1 < come.length then come.getD (leave.length + 1) 0 - 1 else 6) + 1) := by rw [apIn, if_neg (by decide)]

set_option maxHeartbeats 4000000 in
theorem HApart_in (width : Nat) (hw : width ≤ 100) (n : Nat) (hn : n ≤ 1000) (ac att : Option Addr) (cc ct m : Nat) (come to_ : List Int) (hcr : InR come) (htr : InR to_) (hnm : n ≤ m) (nx : List Int → Int)
    (hbase : ∀ (al : Option Addr) (cl : Nat) (leave : List Int) (W : World), IntsAt W ac n come → IntsAt W att m to_ → IntsAt W al n leave → (al = none → cl = 0) → InR leave →
      Calls Tryd.prog 7 #[.int .i64 width, .slice ac n cc, .slice al n cl, .slice att m ct] W fun e w' => e = .returned (.int .i64 (wrap64 (nx leave))) ∧ Below W.heap.size W w') (k : Nat) :
    ∀ (al : Option Addr) (l cl : Nat) (leave : List Int) (w : World), k + l = n → IntsAt w ac n come → IntsAt w att m to_ → IntsAt w al l leave → (al = none → cl = 0) → InR leave →
      Calls Tryd.prog 7 #[.int .i64 width, .slice ac n cc, .slice al l cl, .slice att m ct] w fun e w' => e = .returned (.int .i64 (wrap64 (apIn nx (decide (width = 0)) to_ come k leave))) ∧ Below w.heap.size w w' := by
  induction k with
  | zero =>
    intro al l cl leave w hl hc ht hu hcu hr
    obtain rfl : l = n := by omega
    exact hbase al cl leave w hc ht hu hcu hr
  | succ k ih =>
    intro al l cl leave w hl hc ht hu hcu hr
    have hln : l < n := by omega
    obtain ⟨ii, hi, hz0, hz1, hz2⟩ := info_parts info_int
    obtain ⟨b, off, rfl, hb, hcells⟩ := hc.some (by omega)
    obtain ⟨b2, off2, rfl, hb2, htells⟩ := ht.some (by omega)
    have hul := hu.1
    have hcl := hc.1
    obtain ⟨c0, hc0⟩ : ∃ x, x = come.getD l 0 := ⟨_, rfl⟩
    obtain ⟨c1, hc1⟩ : ∃ x, x = come.getD (l + 1) 0 := ⟨_, rfl⟩
    obtain ⟨t0, ht0⟩ : ∃ x, x = to_.getD l 0 := ⟨_, rfl⟩
    have k0 := hcells l hln
    have k1 : l + 1 < n → w.cell? ⟨b, off + (l + 1), none⟩ = some (.int .i64 c1) := fun h => by rw [hc1]; exact hcells (l + 1) h
    have k2 := htells l (by omega)
    rw [← hc0] at k0
    rw [← ht0] at k2
    have r0 := hcr l
    have r1 := hcr (l + 1)
    have r2 := htr l
    rw [← hc0] at r0
    rw [← hc1] at r1
    rw [← ht0] at r2
    obtain ⟨r0a, r0b⟩ := r0
    obtain ⟨r1a, r1b⟩ := r1
    obtain ⟨r2a, r2b⟩ := r2
    have ho : width = 0 → (t0 < c0 ∨ (if l + 1 < n then c1 - 1 else 6) < t0) → apIn nx true to_ come (k + 1) leave = 0 := fun _ h => ap_out (by rw [hul, hcl, ← hc0, ← hc1, ← ht0]; exact h)
    have hin : width = 0 → ¬ (t0 < c0 ∨ (if l + 1 < n then c1 - 1 else 6) < t0) → apIn nx true to_ come (k + 1) leave = upS t0 (fun h => apIn nx true to_ come k (leave ++ [h])) (t0 + 1) := fun _ h => by
      have := ap_in (nx := nx) (to_ := to_) (come := come) (leave := leave) (k := k) (by rw [hul, hcl, ← hc0, ← hc1, ← ht0]; exact h)
      rwa [hul, ← ht0] at this
    have hpo : apIn nx false to_ come (k + 1) leave = upS c0 (fun h => apIn nx false to_ come k (leave ++ [h])) ((if l + 1 < n then c1 - 1 else 6) + 1) := by
      have := ap_pos (nx := nx) (to_ := to_) (come := come) (leave := leave) (k := k)
      rwa [hul, hcl, ← hc0, ← hc1] at this
    have HO := Lib.hid ho
    have HIN := Lib.hid hin
    have HPO := Lib.hid hpo
    have HCC := Lib.hid hc
    have HTT := Lib.hid ht
    have HU := Lib.hid hu
    have HCU := Lib.hid hcu
    have HRR := Lib.hid hr
    have IH := Lib.hid ih
    have HK1 := Lib.hid k1
    have HML := Lib.hid (show (leave.map (Value.int .i64)).length = l by rw [List.length_map, hul])
    have HUL := Lib.hid hul
    have hlni : ((l : Int) == (n : Int)) = false := by simp; omega
    have hl0 : (0 : Int) ≤ l := by omega
    have hl1 : (l : Int) < n := by omega
    have hl2 : (l : Int) < m := by omega
    clear hc0 hc1 ht0 hcells htells ho hin hpo hc ht hu hcu hr ih k1 hul hcl hcr htr hbase
    by_cases hwz : width = 0
    · subst hwz
      have hz : (((0 : Nat) : Int) == 0) = true := by decide
      rw [show decide ((0 : Nat) = 0) = true from rfl] at IH ⊢
      by_cases hl1n : l + 1 < n
      · have HOO := fun h => HO.out rfl (by rw [if_pos hl1n]; exact h)
        have HII := fun h => HIN.out rfl (by rw [if_pos hl1n]; exact h)
        have hx1 : (l : Int) + 1 < n := by omega
        have hx2 : (0 : Int) ≤ (l : Int) + 1 := by omega
        have hx3 : ((l : Int) + 1).toNat = l + 1 := by omega
        have k1 := HK1.out hl1n
        by_cases h1 : t0 < c0
        · have HV := HOO (Or.inl h1)
          clear HOO HII
          rw [HV]
          clear HO HIN HPO HCC HTT HU HCU HRR IH HK1 HML
          go_enter Tryd.func7, Tryd.ntmps7
          go_wp2_with fail
          go_ret
          exact ⟨ret_int (by rw [wrap_in (by omega) (by omega)]), Below.refl _ _⟩
        · by_cases h2 : c1 - 1 < t0
          · have HV := HOO (Or.inr h2)
            clear HOO HII
            rw [HV]
            clear HO HIN HPO HCC HTT HU HCU HRR IH HK1 HML
            go_enter Tryd.func7, Tryd.ntmps7
            go_wp2_with fail
            go_ret
            exact ⟨ret_int (by rw [wrap_in (by omega) (by omega)]), Below.refl _ _⟩
          · have HV := HII (fun h => by omega)
            clear HOO HII
            obtain ⟨F, hF⟩ : ∃ F : Int → Int, F = fun h => apIn nx true to_ come k (leave ++ [h]) := ⟨_, rfl⟩
            rw [HV, ← hF]
            have HF := Lib.hid hF
            clear HO HIN HPO hF
            go_enter Tryd.func7, Tryd.ntmps7
            go_wp2_with fail
            go_loopg [12, 13] 9 (fun g s i wr => ∃ h : Int, t0 ≤ h ∧ h ≤ 7 ∧ (h = t0 ∨ h ≤ t0 + 1) ∧ (7 - h).toNat < g ∧ s = .int .i64 (wrap64 (upS t0 F h)) ∧ i = .int .i64 h ∧ Below w.heap.size w wr)
            case atStart => exact ⟨t0, by omega, by omega, Or.inl rfl, by omega, by rw [upS_same _ _ (by omega), wrap_in (by omega) (by omega)], rfl, Below.refl _ _⟩
            case round =>
              obtain ⟨h, h1, h2, h3, hg, rfl, rfl, hbel⟩ := hrel
              by_cases hlt : h ≤ t0
              · obtain ⟨P, hP⟩ : ∃ P, P = upS t0 F h := ⟨_, rfl⟩
                have hsum : upS t0 F (h + 1) = P + apIn nx true to_ come k (leave ++ [h]) := by rw [upS_succ _ _ h1, hP, HF.out]
                rw [← hP]
                have HSUM := Lib.hid hsum
                have HCE := Lib.hid (cells_of_ints (HU.out.call hbel))
                have HBE := Lib.hid hbel
                have h0 : 0 ≤ h := by omega
                have h6 : h ≤ 6 := by omega
                have H3 := Lib.hid h3
                have hll : leave.length ≤ 1000 := by rw [HUL.out]; omega
                have HL2 := Lib.hid (show (leave ++ [h]).length = l + 1 by rw [List.length_append, List.length_singleton, HUL.out])
                have HHF := Lib.hid (show ∀ (W : World), Below wr.heap.size wr W → Below w.heap.size w W from fun W h => below_trans HBE.out h)
                clear hP hsum h3 hbel
                go_wp2_with (first
                  | (at_builtin; refine wpList_append_own1 (o := ⟨some 75, _, _, _, _, _⟩) rfl _ _ 22 rfl wr.heap.size 3 ii (.int .i64 0) 8 Tryd.underlying22 hi hz0 hz1 hz2 rfl _ 0 [] rfl (World.ownsRow_nil _ _ _ _) _ l _ (leave.map (Value.int .i64)) rfl HML.out HCU.out (fun j u h => HCE.out j u h) (ints_oneCell _ _) (by unfold maxLen; omega) (by omega) (Nat.le_refl _) ?_; intro v1 w3 hown1 hgrow1; have HF1 := Lib.hid (fresh1 hgrow1); have HOI := Lib.hid (show OwnInts w3 wr.heap.size v1 leave from (by unfold OwnInts; rw [HUL.out]; simpa using hown1)); clear hown1 hgrow1)
                  | (at_builtin; refine wpList_append_own1 (o := ⟨some 82, _, _, _, _, _⟩) rfl _ _ 22 rfl wr.heap.size 3 ii (.int .i64 0) 8 Tryd.underlying22 hi hz0 hz1 hz2 rfl _ leave.length (leave.map (Value.int .i64)) rfl (World.ownsRow.alloc HOI.out _) (some ⟨w3.heap.size, 0, none⟩) 1 1 [.int .i64 h] rfl rfl (fun h => by cases h) (one_new _ _ _) (one_int _ _) (by unfold maxLen; omega) (by omega) (le_alloc HF1.out.size _) ?_; intro v5 w5 hown5 hgrow5; have HB5 := Lib.hid (show Below wr.heap.size wr w5 from own_grow HF1.out HOI.out hgrow5); have ho5 := OwnInts.snoc rfl hown5; clear hown5 hgrow5; obtain ⟨a5, c5, rfl, _, _, hn5, hi5⟩ := ho5.shape; rw [HL2.out] at hi5 ⊢; have HI5 := Lib.hid hi5; have HN5 := Lib.hid hn5; clear ho5 hi5 hn5)
                  | (go_at_call 7; refine (IH.out _ _ _ (leave ++ [h]) _ (by omega) (HCC.out.call (HHF.out _ HB5.out)) (HTT.out.call (HHF.out _ HB5.out)) HI5.out HN5.out (HRR.out.snoc h0 h6)).mono ?_; rintro e w6 ⟨rfl, hb6⟩))
                have hbel6 := below_trans (HHF.out _ HB5.out) hb6
                go_roundg (7 - h).toNat
                case measure => omega
                case rel => exact ⟨h + 1, by omega, by omega, Or.inr (by omega), by omega, by rw [HSUM.out]; show Value.int .i64 (wrap64 (wrap64 P + wrap64 _)) = _; rw [wrap_add_l, wrap_add_r], by go_num, hbel6⟩
              · have hend : upS t0 F h = upS t0 F (t0 + 1) := by
                  rcases h3 with h3 | h3
                  · rw [upS_same _ _ (by omega), upS_same _ _ (by omega)]
                  · rw [show h = t0 + 1 by omega]
                have HEND := Lib.hid hend
                clear hend h3
                go_wp2_with fail
                go_ret
                exact ⟨ret_int (by rw [HEND.out] <;> (congr 2 <;> omega)), hbel⟩
      · have HOO := fun h => HO.out rfl (by rw [if_neg hl1n]; exact h)
        have HII := fun h => HIN.out rfl (by rw [if_neg hl1n]; exact h)
        have hx1 : ¬ (l : Int) + 1 < n := by omega
        by_cases h1 : t0 < c0
        · have HV := HOO (Or.inl h1)
          clear HOO HII
          rw [HV]
          clear HO HIN HPO HCC HTT HU HCU HRR IH HK1 HML
          go_enter Tryd.func7, Tryd.ntmps7
          go_wp2_with fail
          go_ret
          exact ⟨ret_int (by rw [wrap_in (by omega) (by omega)]), Below.refl _ _⟩
        · have HV := HII (fun h => by omega)
          clear HOO HII
          obtain ⟨F, hF⟩ : ∃ F : Int → Int, F = fun h => apIn nx true to_ come k (leave ++ [h]) := ⟨_, rfl⟩
          rw [HV, ← hF]
          have HF := Lib.hid hF
          clear HO HIN HPO hF
          go_enter Tryd.func7, Tryd.ntmps7
          go_wp2_with fail
          go_loopg [12, 13] 9 (fun g s i wr => ∃ h : Int, t0 ≤ h ∧ h ≤ 7 ∧ (h = t0 ∨ h ≤ t0 + 1) ∧ (7 - h).toNat < g ∧ s = .int .i64 (wrap64 (upS t0 F h)) ∧ i = .int .i64 h ∧ Below w.heap.size w wr)
          case atStart => exact ⟨t0, by omega, by omega, Or.inl rfl, by omega, by rw [upS_same _ _ (by omega), wrap_in (by omega) (by omega)], rfl, Below.refl _ _⟩
          case round =>
            obtain ⟨h, h1, h2, h3, hg, rfl, rfl, hbel⟩ := hrel
            by_cases hlt : h ≤ t0
            · obtain ⟨P, hP⟩ : ∃ P, P = upS t0 F h := ⟨_, rfl⟩
              have hsum : upS t0 F (h + 1) = P + apIn nx true to_ come k (leave ++ [h]) := by rw [upS_succ _ _ h1, hP, HF.out]
              rw [← hP]
              have HSUM := Lib.hid hsum
              have HCE := Lib.hid (cells_of_ints (HU.out.call hbel))
              have HBE := Lib.hid hbel
              have h0 : 0 ≤ h := by omega
              have h6 : h ≤ 6 := by omega
              have H3 := Lib.hid h3
              have hll : leave.length ≤ 1000 := by rw [HUL.out]; omega
              have HL2 := Lib.hid (show (leave ++ [h]).length = l + 1 by rw [List.length_append, List.length_singleton, HUL.out])
              have HHF := Lib.hid (show ∀ (W : World), Below wr.heap.size wr W → Below w.heap.size w W from fun W h => below_trans HBE.out h)
              clear hP hsum h3 hbel
              go_wp2_with (first
                | (at_builtin; refine wpList_append_own1 (o := ⟨some 75, _, _, _, _, _⟩) rfl _ _ 22 rfl wr.heap.size 3 ii (.int .i64 0) 8 Tryd.underlying22 hi hz0 hz1 hz2 rfl _ 0 [] rfl (World.ownsRow_nil _ _ _ _) _ l _ (leave.map (Value.int .i64)) rfl HML.out HCU.out (fun j u h => HCE.out j u h) (ints_oneCell _ _) (by unfold maxLen; omega) (by omega) (Nat.le_refl _) ?_; intro v1 w3 hown1 hgrow1; have HF1 := Lib.hid (fresh1 hgrow1); have HOI := Lib.hid (show OwnInts w3 wr.heap.size v1 leave from (by unfold OwnInts; rw [HUL.out]; simpa using hown1)); clear hown1 hgrow1)
                | (at_builtin; refine wpList_append_own1 (o := ⟨some 82, _, _, _, _, _⟩) rfl _ _ 22 rfl wr.heap.size 3 ii (.int .i64 0) 8 Tryd.underlying22 hi hz0 hz1 hz2 rfl _ leave.length (leave.map (Value.int .i64)) rfl (World.ownsRow.alloc HOI.out _) (some ⟨w3.heap.size, 0, none⟩) 1 1 [.int .i64 h] rfl rfl (fun h => by cases h) (one_new _ _ _) (one_int _ _) (by unfold maxLen; omega) (by omega) (le_alloc HF1.out.size _) ?_; intro v5 w5 hown5 hgrow5; have HB5 := Lib.hid (show Below wr.heap.size wr w5 from own_grow HF1.out HOI.out hgrow5); have ho5 := OwnInts.snoc rfl hown5; clear hown5 hgrow5; obtain ⟨a5, c5, rfl, _, _, hn5, hi5⟩ := ho5.shape; rw [HL2.out] at hi5 ⊢; have HI5 := Lib.hid hi5; have HN5 := Lib.hid hn5; clear ho5 hi5 hn5)
                | (go_at_call 7; refine (IH.out _ _ _ (leave ++ [h]) _ (by omega) (HCC.out.call (HHF.out _ HB5.out)) (HTT.out.call (HHF.out _ HB5.out)) HI5.out HN5.out (HRR.out.snoc h0 h6)).mono ?_; rintro e w6 ⟨rfl, hb6⟩))
              have hbel6 := below_trans (HHF.out _ HB5.out) hb6
              go_roundg (7 - h).toNat
              case measure => omega
              case rel => exact ⟨h + 1, by omega, by omega, Or.inr (by omega), by omega, by rw [HSUM.out]; show Value.int .i64 (wrap64 (wrap64 P + wrap64 _)) = _; rw [wrap_add_l, wrap_add_r], by go_num, hbel6⟩
            · have hend : upS t0 F h = upS t0 F (t0 + 1) := by
                rcases h3 with h3 | h3
                · rw [upS_same _ _ (by omega), upS_same _ _ (by omega)]
                · rw [show h = t0 + 1 by omega]
              have HEND := Lib.hid hend
              clear hend h3
              go_wp2_with fail
              go_ret
              exact ⟨ret_int (by rw [HEND.out] <;> (congr 2 <;> omega)), hbel⟩
    · have hz : ((width : Int) == 0) = false := by simp; omega
      rw [show decide (width = 0) = false by simpa using hwz] at IH ⊢
      have HV := HPO.out
      by_cases hl1n : l + 1 < n
      · rw [if_pos hl1n] at HV
        have hx1 : (l : Int) + 1 < n := by omega
        have hx2 : (0 : Int) ≤ (l : Int) + 1 := by omega
        have hx3 : ((l : Int) + 1).toNat = l + 1 := by omega
        have k1 := HK1.out hl1n

        obtain ⟨F, hF⟩ : ∃ F : Int → Int, F = fun h => apIn nx false to_ come k (leave ++ [h]) := ⟨_, rfl⟩
        rw [HV, ← hF]
        have HF := Lib.hid hF
        clear HO HIN HPO hF
        go_enter Tryd.func7, Tryd.ntmps7
        go_wp2_with fail
        go_loopg [12, 13] 9 (fun g s i wr => ∃ h : Int, c0 ≤ h ∧ h ≤ 7 ∧ (h = c0 ∨ h ≤ (c1 - 1) + 1) ∧ (7 - h).toNat < g ∧ s = .int .i64 (wrap64 (upS c0 F h)) ∧ i = .int .i64 h ∧ Below w.heap.size w wr)
        case atStart => exact ⟨c0, by omega, by omega, Or.inl rfl, by omega, by rw [upS_same _ _ (by omega), wrap_in (by omega) (by omega)], rfl, Below.refl _ _⟩
        case round =>
          obtain ⟨h, h1, h2, h3, hg, rfl, rfl, hbel⟩ := hrel
          by_cases hlt : h ≤ (c1 - 1)
          · obtain ⟨P, hP⟩ : ∃ P, P = upS c0 F h := ⟨_, rfl⟩
            have hsum : upS c0 F (h + 1) = P + apIn nx false to_ come k (leave ++ [h]) := by rw [upS_succ _ _ h1, hP, HF.out]
            rw [← hP]
            have HSUM := Lib.hid hsum
            have HCE := Lib.hid (cells_of_ints (HU.out.call hbel))
            have HBE := Lib.hid hbel
            have h0 : 0 ≤ h := by omega
            have h6 : h ≤ 6 := by omega
            have H3 := Lib.hid h3
            have hll : leave.length ≤ 1000 := by rw [HUL.out]; omega
            have HL2 := Lib.hid (show (leave ++ [h]).length = l + 1 by rw [List.length_append, List.length_singleton, HUL.out])
            have HHF := Lib.hid (show ∀ (W : World), Below wr.heap.size wr W → Below w.heap.size w W from fun W h => below_trans HBE.out h)
            clear hP hsum h3 hbel
            go_wp2_with (first
              | (at_builtin; refine wpList_append_own1 (o := ⟨some 75, _, _, _, _, _⟩) rfl _ _ 22 rfl wr.heap.size 3 ii (.int .i64 0) 8 Tryd.underlying22 hi hz0 hz1 hz2 rfl _ 0 [] rfl (World.ownsRow_nil _ _ _ _) _ l _ (leave.map (Value.int .i64)) rfl HML.out HCU.out (fun j u h => HCE.out j u h) (ints_oneCell _ _) (by unfold maxLen; omega) (by omega) (Nat.le_refl _) ?_; intro v1 w3 hown1 hgrow1; have HF1 := Lib.hid (fresh1 hgrow1); have HOI := Lib.hid (show OwnInts w3 wr.heap.size v1 leave from (by unfold OwnInts; rw [HUL.out]; simpa using hown1)); clear hown1 hgrow1)
              | (at_builtin; refine wpList_append_own1 (o := ⟨some 82, _, _, _, _, _⟩) rfl _ _ 22 rfl wr.heap.size 3 ii (.int .i64 0) 8 Tryd.underlying22 hi hz0 hz1 hz2 rfl _ leave.length (leave.map (Value.int .i64)) rfl (World.ownsRow.alloc HOI.out _) (some ⟨w3.heap.size, 0, none⟩) 1 1 [.int .i64 h] rfl rfl (fun h => by cases h) (one_new _ _ _) (one_int _ _) (by unfold maxLen; omega) (by omega) (le_alloc HF1.out.size _) ?_; intro v5 w5 hown5 hgrow5; have HB5 := Lib.hid (show Below wr.heap.size wr w5 from own_grow HF1.out HOI.out hgrow5); have ho5 := OwnInts.snoc rfl hown5; clear hown5 hgrow5; obtain ⟨a5, c5, rfl, _, _, hn5, hi5⟩ := ho5.shape; rw [HL2.out] at hi5 ⊢; have HI5 := Lib.hid hi5; have HN5 := Lib.hid hn5; clear ho5 hi5 hn5)
              | (go_at_call 7; refine (IH.out _ _ _ (leave ++ [h]) _ (by omega) (HCC.out.call (HHF.out _ HB5.out)) (HTT.out.call (HHF.out _ HB5.out)) HI5.out HN5.out (HRR.out.snoc h0 h6)).mono ?_; rintro e w6 ⟨rfl, hb6⟩))
            have hbel6 := below_trans (HHF.out _ HB5.out) hb6
            go_roundg (7 - h).toNat
            case measure => omega
            case rel => exact ⟨h + 1, by omega, by omega, Or.inr (by omega), by omega, by rw [HSUM.out]; show Value.int .i64 (wrap64 (wrap64 P + wrap64 _)) = _; rw [wrap_add_l, wrap_add_r], by go_num, hbel6⟩
          · have hend : upS c0 F h = upS c0 F ((c1 - 1) + 1) := by
              rcases h3 with h3 | h3
              · rw [upS_same _ _ (by omega), upS_same _ _ (by omega)]
              · rw [show h = (c1 - 1) + 1 by omega]
            have HEND := Lib.hid hend
            clear hend h3
            go_wp2_with fail
            go_ret
            exact ⟨ret_int (by rw [HEND.out] <;> (congr 2 <;> omega)), hbel⟩
      · rw [if_neg hl1n] at HV
        have hx1 : ¬ (l : Int) + 1 < n := by omega

        obtain ⟨F, hF⟩ : ∃ F : Int → Int, F = fun h => apIn nx false to_ come k (leave ++ [h]) := ⟨_, rfl⟩
        rw [HV, ← hF]
        have HF := Lib.hid hF
        clear HO HIN HPO hF
        go_enter Tryd.func7, Tryd.ntmps7
        go_wp2_with fail
        go_loopg [12, 13] 9 (fun g s i wr => ∃ h : Int, c0 ≤ h ∧ h ≤ 7 ∧ (h = c0 ∨ h ≤ 6 + 1) ∧ (7 - h).toNat < g ∧ s = .int .i64 (wrap64 (upS c0 F h)) ∧ i = .int .i64 h ∧ Below w.heap.size w wr)
        case atStart => exact ⟨c0, by omega, by omega, Or.inl rfl, by omega, by rw [upS_same _ _ (by omega), wrap_in (by omega) (by omega)], rfl, Below.refl _ _⟩
        case round =>
          obtain ⟨h, h1, h2, h3, hg, rfl, rfl, hbel⟩ := hrel
          by_cases hlt : h ≤ 6
          · obtain ⟨P, hP⟩ : ∃ P, P = upS c0 F h := ⟨_, rfl⟩
            have hsum : upS c0 F (h + 1) = P + apIn nx false to_ come k (leave ++ [h]) := by rw [upS_succ _ _ h1, hP, HF.out]
            rw [← hP]
            have HSUM := Lib.hid hsum
            have HCE := Lib.hid (cells_of_ints (HU.out.call hbel))
            have HBE := Lib.hid hbel
            have h0 : 0 ≤ h := by omega
            have h6 : h ≤ 6 := by omega
            have H3 := Lib.hid h3
            have hll : leave.length ≤ 1000 := by rw [HUL.out]; omega
            have HL2 := Lib.hid (show (leave ++ [h]).length = l + 1 by rw [List.length_append, List.length_singleton, HUL.out])
            have HHF := Lib.hid (show ∀ (W : World), Below wr.heap.size wr W → Below w.heap.size w W from fun W h => below_trans HBE.out h)
            clear hP hsum h3 hbel
            go_wp2_with (first
              | (at_builtin; refine wpList_append_own1 (o := ⟨some 75, _, _, _, _, _⟩) rfl _ _ 22 rfl wr.heap.size 3 ii (.int .i64 0) 8 Tryd.underlying22 hi hz0 hz1 hz2 rfl _ 0 [] rfl (World.ownsRow_nil _ _ _ _) _ l _ (leave.map (Value.int .i64)) rfl HML.out HCU.out (fun j u h => HCE.out j u h) (ints_oneCell _ _) (by unfold maxLen; omega) (by omega) (Nat.le_refl _) ?_; intro v1 w3 hown1 hgrow1; have HF1 := Lib.hid (fresh1 hgrow1); have HOI := Lib.hid (show OwnInts w3 wr.heap.size v1 leave from (by unfold OwnInts; rw [HUL.out]; simpa using hown1)); clear hown1 hgrow1)
              | (at_builtin; refine wpList_append_own1 (o := ⟨some 82, _, _, _, _, _⟩) rfl _ _ 22 rfl wr.heap.size 3 ii (.int .i64 0) 8 Tryd.underlying22 hi hz0 hz1 hz2 rfl _ leave.length (leave.map (Value.int .i64)) rfl (World.ownsRow.alloc HOI.out _) (some ⟨w3.heap.size, 0, none⟩) 1 1 [.int .i64 h] rfl rfl (fun h => by cases h) (one_new _ _ _) (one_int _ _) (by unfold maxLen; omega) (by omega) (le_alloc HF1.out.size _) ?_; intro v5 w5 hown5 hgrow5; have HB5 := Lib.hid (show Below wr.heap.size wr w5 from own_grow HF1.out HOI.out hgrow5); have ho5 := OwnInts.snoc rfl hown5; clear hown5 hgrow5; obtain ⟨a5, c5, rfl, _, _, hn5, hi5⟩ := ho5.shape; rw [HL2.out] at hi5 ⊢; have HI5 := Lib.hid hi5; have HN5 := Lib.hid hn5; clear ho5 hi5 hn5)
              | (go_at_call 7; refine (IH.out _ _ _ (leave ++ [h]) _ (by omega) (HCC.out.call (HHF.out _ HB5.out)) (HTT.out.call (HHF.out _ HB5.out)) HI5.out HN5.out (HRR.out.snoc h0 h6)).mono ?_; rintro e w6 ⟨rfl, hb6⟩))
            have hbel6 := below_trans (HHF.out _ HB5.out) hb6
            go_roundg (7 - h).toNat
            case measure => omega
            case rel => exact ⟨h + 1, by omega, by omega, Or.inr (by omega), by omega, by rw [HSUM.out]; show Value.int .i64 (wrap64 (wrap64 P + wrap64 _)) = _; rw [wrap_add_l, wrap_add_r], by go_num, hbel6⟩
          · have hend : upS c0 F h = upS c0 F (6 + 1) := by
              rcases h3 with h3 | h3
              · rw [upS_same _ _ (by omega), upS_same _ _ (by omega)]
              · rw [show h = 6 + 1 by omega]
            have HEND := Lib.hid hend
            clear hend h3
            go_wp2_with fail
            go_ret
            exact ⟨ret_int (by rw [HEND.out] <;> (congr 2 <;> omega)), hbel⟩

set_option maxHeartbeats 1000000 in
theorem HApart_any (n : Nat) (hn : n ≤ 1000) (att : Option Addr) (ct m : Nat) (to_ : List Int) (htr : InR to_) (hnm : n ≤ m) (q : Nat) :
    ∀ (ac : Option Addr) (cc : Nat) (come : List Int) (w : World), q ≤ 100 → IntsAt w ac n come → IntsAt w att m to_ → InR come →
      Calls Tryd.prog 7 #[.int .i64 q, .slice ac n cc, .slice none 0 0, .slice att m ct] w fun e w' => e = .returned (.int .i64 (wrap64 (apK to_ q come n []))) ∧ Below w.heap.size w w' := by
  induction q with
  | zero =>
    intro ac cc come w hq hc ht hr
    refine HApart_in 0 (by omega) n hn ac att cc ct m come to_ hr htr hnm (fun _ => 1) ?_ n none 0 0 [] w (by omega) hc ht (IntsAt.nil _ _) (fun _ => rfl) InR.nil
    intro al cl leave W h1 h2 h3 h4 h5
    clear h1 h2 h3 h4 h5 hc ht hr htr
    have hz : (((0 : Nat) : Int) == 0) = true := by decide
    have hnn : ((n : Int) == (n : Int)) = true := by simp
    go_enter Tryd.func7, Tryd.ntmps7
    go_wp2_with fail
    go_ret
    exact ⟨ret_int (by rw [wrap_in (by omega) (by omega)]), Below.refl _ _⟩
  | succ q ih =>
    intro ac cc come w hq hc ht hr
    refine HApart_in (q + 1) (by omega) n hn ac att cc ct m come to_ hr htr hnm (fun l => apK to_ q l l.length []) ?_ n none 0 0 [] w (by omega) hc ht (IntsAt.nil _ _) (fun _ => rfl) InR.nil
    intro al cl leave W h1 h2 h3 h4 h5
    have hc := ih al cl leave W (by omega) h3 h2 h5
    have hl := h3.1
    show Calls _ _ _ _ fun e w' => e = .returned (.int .i64 (wrap64 (apK to_ q leave leave.length []))) ∧ Below W.heap.size W w'
    rw [hl]
    generalize apK to_ q leave n [] = X at *
    have hz : (((q + 1 : Nat) : Int) == 0) = false := by simp; omega
    have hsub : IntKind.i64.wrap (((q + 1 : Nat) : Int) - 1) = (q : Int) := by rw [show ((q + 1 : Nat) : Int) - 1 = (q : Int) by omega]; exact IntWalk.i64_in _ (by omega)
    have hnn : ((n : Int) == (n : Int)) = true := by simp
    have HC := Lib.hid hc
    clear h1 h2 h3 h4 h5 ht hr htr ih hl hc
    go_enter Tryd.func7, Tryd.ntmps7
    go_wp2_with (go_at_call 7; refine HC.out.mono ?_; rintro e w6 ⟨rfl, hb6⟩)
    go_ret
    exact ⟨rfl, hb6⟩
end Go.Proofs.YtbojcbpmalgdlaaDoor
