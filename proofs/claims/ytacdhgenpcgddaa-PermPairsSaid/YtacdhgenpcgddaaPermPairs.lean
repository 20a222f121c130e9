/- It proves that rankmerelaw4.PermPairs, called with any list of lists of integers, returns true, and leaves its arguments as they were. There are no conditions. -/
import Derived.Test.YtacdhgenpcgddaaPermFact
import Derived.Test.YtacdhgenpcgddaaBools
import Derived.Test.YtacdhgenpcgddaaLawIn
import Derived.Test.YtacdhgenpcgddaaOpen
import Derived.ProofKit
import Derived.OpenShut
import Derived.ShutString
import Derived.ChangeOld
import Derived.Lib.SmallJoins
namespace Go.Proofs.Ytacdhgenpcgddaa.PermPairsP
open Go.ChangeShapes Go.WideShapes Go.ChangeAt Go.RowKit Go.Joins
open Go.ChangeMaps (open_string shut_string)
open Go.Proofs.Ytacdhgenpcgddaa
set_option linter.unusedVariables false
set_option linter.unusedSimpArgs false

def fac : Nat → Nat
  | 0 => 1
  | n + 1 => fac n * (n + 1)
theorem sumTo_bd {F : Nat → Int} {c : Int} (h : ∀ j, 0 ≤ F j ∧ F j ≤ c) (n : Nat) : 0 ≤ sumTo F n ∧ sumTo F n ≤ n * c := by
  induction n with
  | zero => simp [sumTo]
  | succ n ih =>
    rw [sumTo]
    have := h n
    have e : ((n + 1 : Nat) : Int) * c = n * c + c := by rw [Int.natCast_succ, Int.add_mul, Int.one_mul]
    omega
theorem G_ones (n : Nat) : ∀ B : Nat → Nat → Int, (∀ i j, 0 ≤ B i j ∧ B i j ≤ 1) → 0 ≤ G 1 n B ∧ G 1 n B ≤ fac n := by
  induction n with
  | zero => intro B _; show (0 : Int) ≤ 1 ∧ (1 : Int) ≤ ((1 : Nat) : Int); omega
  | succ n ih =>
    intro B hB
    rw [G]
    have := sumTo_bd (F := fun j => pw 1 j * B 0 j * G 1 n (minor B 0 j)) (c := fac n) (fun j => by
      obtain ⟨h1, h2⟩ := ih (minor B 0 j) (fun a b => hB _ _)
      obtain ⟨h3, h4⟩ := hB 0 j
      show 0 ≤ pw 1 j * B 0 j * G 1 n (minor B 0 j) ∧ pw 1 j * B 0 j * G 1 n (minor B 0 j) ≤ _
      rw [pw_one, Int.one_mul]
      refine ⟨Int.mul_nonneg h3 h1, ?_⟩
      have : B 0 j = 0 ∨ B 0 j = 1 := by omega
      rcases this with h | h <;> rw [h] <;> omega) (n + 1)
    have e : ((fac (n + 1) : Nat) : Int) = ((n + 1 : Nat) : Int) * fac n := by
      show ((fac n * (n + 1) : Nat) : Int) = _
      rw [Int.natCast_mul, Int.mul_comm]
    rw [e]
    exact this
theorem fac_bd : ∀ n, n ≤ 5 → fac n ≤ 120 := by decide

/-- is a number of a row not 0? -/
def adjB (rows : List (List Int)) (i j : Nat) : Bool := fn rows i j != 0
def badS (n : Nat) (adj : Nat → Nat → Bool) (s : Nat) : Bool := decide (cnt n (nb n adj (bitOf s)) < cnt n (bitOf s))
def shortTo (n : Nat) (adj : Nat → Nat → Bool) : Nat → Bool
  | 0 => false
  | k + 1 => shortTo n adj k || badS n adj (k + 1)
theorem short_iff (n : Nat) (adj : Nat → Nat → Bool) (k : Nat) : shortTo n adj k = true ↔ ∃ s, 1 ≤ s ∧ s ≤ k ∧ badS n adj s = true := by
  induction k with
  | zero => simp [shortTo]; intro x h1 h2; omega
  | succ k ih =>
    rw [shortTo, Bool.or_eq_true, ih]
    constructor
    · rintro (⟨s, h1, h2, h3⟩ | h)
      · exact ⟨s, h1, by omega, h3⟩
      · exact ⟨k + 1, by omega, by omega, h⟩
    · rintro ⟨s, h1, h2, h3⟩
      by_cases e : s = k + 1
      · subst e; exact Or.inr h3
      · exact Or.inl ⟨s, h1, by omega, h3⟩
theorem ones_nn (M : Nat → Nat → Int) (i j : Nat) : 0 ≤ onesF M i j ∧ onesF M i j ≤ 1 := by
  unfold onesF; split <;> omega
/-- the law -/
theorem pairs_law {n : Nat} {rows : List (List Int)} (hl : rows.length = n) (he : sqErr rows 5 (-9) 9 = 0) : 0 ≤ pairsV rows ∧ pairsV rows ≤ fac n ∧ ((pairsV rows == 0) == shortTo n (adjB rows) (2 ^ n - 1)) = true := by
  have hv : pairsV rows = G 1 n (onesF (fn rows)) := by unfold pairsV; rw [if_pos he, hl]
  rw [hv]
  obtain ⟨h1, h2⟩ := G_ones n (onesF (fn rows)) (ones_nn _)
  refine ⟨h1, h2, ?_⟩
  have hf := frobenius n (M := onesF (fn rows)) (fun i j => (ones_nn _ i j).1) (adjB rows) (fun i j _ _ => by
    unfold adjB onesF
    by_cases h : fn rows i j = 0
    · simp [h]
    · simp [h])
  rw [frob_bits] at hf
  have hs := short_iff n (adjB rows) (2 ^ n - 1)
  have hp : 0 < 2 ^ n := Nat.pow_pos (by omega)
  have key : (G 1 n (onesF (fn rows)) = 0) ↔ shortTo n (adjB rows) (2 ^ n - 1) = true := by
    rw [hf, hs]
    constructor
    · rintro ⟨s, a1, a2, a3⟩; exact ⟨s, a1, by omega, by unfold badS; simpa using a3⟩
    · rintro ⟨s, a1, a2, a3⟩; exact ⟨s, a1, by omega, by unfold badS at a3; simpa using a3⟩
  cases hb : shortTo n (adjB rows) (2 ^ n - 1)
  · have : G 1 n (onesF (fn rows)) ≠ 0 := fun e => by have := key.1 e; rw [hb] at this; cases this
    simpa using this
  · have := key.2 hb
    simp [this]
theorem bit_half (s i : Nat) : s / 2 ^ i / 2 = s / 2 ^ (i + 1) := by rw [Nat.pow_succ, Nat.div_div_eq_div_mul]
theorem nb_yes {i : Nat} {adj : Nat → Nat → Bool} {S : Nat → Bool} (h : S i = true) (j : Nat) : nb (i + 1) adj S j = (nb i adj S j || adj i j) := by
  unfold nb
  rw [List.range_succ, List.any_append]
  simp [h]
theorem nb_no {i : Nat} {adj : Nat → Nat → Bool} {S : Nat → Bool} (h : S i = false) (j : Nat) : nb (i + 1) adj S j = nb i adj S j := by
  unfold nb
  rw [List.range_succ, List.any_append]
  simp [h]

theorem pairs_bad (a : Option Addr) (n cap : Nat) (rows : List (List Int)) (w : World) (hr : RowsAt w a n rows) (hcap : n ≤ cap) (hs : Small n rows) (he : sqErr rows 5 (-9) 9 ≠ 0) :
    Calls Try.prog 3 #[.slice a n cap] w fun e w' => e = .returned (.bool true) ∧ Below w.heap.size w w' := by
  have hO := fun w (h : RowsAt w a n rows) => Pairs_any a n cap rows w h hs
  have HR := Lib.hid hr
  have hv : pairsV rows = 0 := by unfold pairsV; rw [if_neg he]
  rw [hv, errV_pos he] at hO
  generalize sqErr rows 5 (-9) 9 = e at *
  clear hr hs he hv
  go_enter Try.func3, Try.ntmps3
  go_wp2_with fail
  go_at_call 4
  refine (permFact_any _).mono ?_
  rintro e w1 ⟨rfl, hb⟩
  go_wp2_with fail
  go_at_call 5
  refine (hO _ (HR.out.call hb)).mono ?_
  rintro e w2 ⟨rfl, hb2⟩
  go_wp2_with fail
  go_ret
  exact ⟨rfl, below_trans hb hb2⟩

set_option maxHeartbeats 4000000 in
theorem pairs_good (a : Option Addr) (n cap : Nat) (rows : List (List Int)) (w : World) (hr : RowsAt w a n rows) (hcap : n ≤ cap) (hs : Small n rows) (he : sqErr rows 5 (-9) 9 = 0) :
    Calls Try.prog 3 #[.slice a n cap] w fun e w' => e = .returned (.bool true) ∧ Below w.heap.size w w' := by
  have hO := fun w (h : RowsAt w a n rows) => Pairs_any a n cap rows w h hs
  obtain ⟨bi, hi, hz0, hz1, hz2⟩ := info_parts info_bool
  have hl := hr.1
  have hsq := good_sq he
  obtain ⟨h4, h3, _⟩ := sqErr_good he
  obtain ⟨p1, p2, p3⟩ := pairs_law hl he
  have hf5 := fac_bd n (by omega)
  rw [hl] at hsq h3 h4
  rw [he, errV_zero] at hO
  generalize pairsV rows = V at *
  have HR := Lib.hid hr
  have HSQ := Lib.hid hsq
  have HP3 := Lib.hid p3
  have HO := Lib.hid hO
  have hp1 : (0 : Int) < ((2 ^ n : Nat) : Int) := by
    have : 0 < 2 ^ n := Nat.pow_pos (by omega)
    omega
  have hp2 : 2 ^ n ≤ 32 := by
    have : n = 0 ∨ n = 1 ∨ n = 2 ∨ n = 3 ∨ n = 4 ∨ n = 5 := by omega
    rcases this with rfl | rfl | rfl | rfl | rfl | rfl <;> decide
  obtain ⟨P2, hP2⟩ : ∃ P2, P2 = 2 ^ n := ⟨_, rfl⟩
  have ht := fun W => two_any n (by omega) W
  rw [← hP2] at hp1 hp2 ht
  have HT := Lib.hid ht
  have HP2 := Lib.hid hP2
  have HF5 := Lib.hid hf5
  have HPB := Lib.hid p2
  clear hr hs he hl hsq p3 hO hP2 hf5 p2 ht
  go_enter Try.func3, Try.ntmps3
  go_wp2_with fail
  go_at_call 4
  refine (permFact_any _).mono ?_
  rintro e w1 ⟨rfl, hb1⟩
  go_wp2_with fail
  go_at_call 5
  refine (HO.out _ (HR.out.call hb1)).mono ?_
  rintro e w2 ⟨rfl, hb2⟩
  have hb12 := below_trans hb1 hb2
  have HB12 := Lib.hid hb12
  clear hb1 hb2 hb12
  go_wp2_with fail
  go_loopg [7, 8] (n + 1) (fun g p i wr => ∃ k q : Nat, 1 ≤ k ∧ k ≤ n ∧ n - k < g ∧ p = .int .i64 q ∧ q = fac k ∧ i = .int .i64 ((k : Int) + 1) ∧ wr = w2)
  case atStart => exact ⟨1, 1, by omega, by omega, by omega, rfl, rfl, rfl, rfl⟩
  case round =>
    obtain ⟨k, q, hk1, hk, hg, rfl, hq, rfl, hw⟩ := hrel
    subst hw
    have hq2 : q ≤ 120 := by rw [hq]; exact fac_bd k (by omega)
    have HQ := Lib.hid hq
    clear hq
    by_cases hlt : k < n
    · have hki : (k : Int) + 1 ≤ n := by omega
      have hmb : (q : Int) * ((k : Int) + 1) = ((fac (k + 1) : Nat) : Int) := by
        show _ = ((fac k * (k + 1) : Nat) : Int)
        rw [← HQ.out, Int.natCast_mul]; rfl
      have hfb := fac_bd (k + 1) (by omega)
      have hwm : IntKind.i64.wrap ((q : Int) * ((k : Int) + 1)) = ((fac (k + 1) : Nat) : Int) := by rw [hmb]; exact IntWalk.i64_in _ (by omega)
      clear hmb
      go_wp2_with fail
      go_roundg (n - k)
      case measure => omega
      case rel => exact ⟨k + 1, fac (k + 1), by omega, by omega, by omega, by first | rfl | rw [hwm], rfl, by go_num, rfl⟩
    · obtain rfl : k = n := by omega
      have hin : inB V 0 (q : Int) = true := inB_yes p1 (by have := HPB.out; rw [HQ.out]; exact this)
      clear HPB
      go_wp2_with (go_at_call 6; refine (in_any _ _ _ _).mono ?_; rintro e w3 ⟨rfl, rfl⟩; rw [hin])
      clear hlt hin HQ hq2
      go_loopg [9, 10] (P2 + 1) (fun g sh i wx => ∃ t : Nat, t + 1 ≤ P2 ∧ P2 - (t + 1) < g ∧ sh = .bool (shortTo k (adjB rows) t) ∧ i = .int .i64 ((t : Int) + 1) ∧ Below w.heap.size w wx)
      case atStart => exact ⟨0, by omega, by omega, rfl, rfl, HB12.out⟩
      case round =>
        obtain ⟨t, ht, hg, rfl, rfl, hbel⟩ := hrel
        obtain ⟨wo, rfl⟩ : ∃ wo : World, wo = wr := ⟨_, rfl⟩
        by_cases hlt : t + 1 < P2
        · have hti : (t : Int) + 1 < P2 := by omega
          have htb : t ≤ 31 := by omega
          obtain ⟨S, hS⟩ : ∃ S, S = bitOf (t + 1) := ⟨_, rfl⟩
          have HS := Lib.hid hS
          have HBEL := Lib.hid hbel
          have hwz := hbel.size
          clear hS hbel
          go_wp2_with fail
          go_at_call 7
          refine (HT.out _).mono ?_
          rintro e w4 ⟨rfl, rfl⟩
          go_wp2_with (at_make; refine wpList_make_full _ rfl _ _ 30 rfl wo.heap.size 4 bi (.bool false) 1 Try.underlying30 hi hz0 hz1 _ _ _ _ k rfl rfl rfl rfl (by rw [hz2]; omega) (by unfold maxLen; omega) (Nat.le_refl _) ?_; intro w5 hown2 hgrow2)
          have hf1 := fresh1 hgrow2
          have hm2 := bools_made hown2
          have hg2 : wo.heap.size < w5.heap.size := (hown2.lt _ rfl).2
          obtain ⟨Gb, hG⟩ : ∃ Gb, Gb = wo.heap.size := ⟨_, rfl⟩
          have hb5 : Below w.heap.size w w5 := below_trans HBEL.out hf1
          have hwG : w.heap.size ≤ Gb := by rw [hG]; exact hwz
          rw [← hG] at hm2 hg2 ⊢
          have hm3 : BoolsAt Gb w5 Gb k (nb 0 (adjB rows) S) := hm2.congr (fun j _ => rfl)
          have HM := Lib.hid hm3
          have HB5 := Lib.hid hb5
          clear hown2 hgrow2 hm2 hm3 hG hf1 hb5
          go_loopg [11, 13, 14] (k + 1) (fun g c r i wx => ∃ p q : Nat, p ≤ k ∧ k - p < g ∧ c = .int .i64 (cnt p S : Nat) ∧ r = .int .i64 (q : Nat) ∧ q = (t + 1) / 2 ^ p ∧ i = .int .i64 p ∧ BoolsAt Gb wx Gb k (nb p (adjB rows) S) ∧ Below w.heap.size w wx)
          case atStart => exact ⟨0, t + 1, by omega, by omega, rfl, rfl, by rw [Nat.pow_zero, Nat.div_one], rfl, HM.out, HB5.out⟩
          case round =>
            obtain ⟨p, q, hp, hg, rfl, rfl, hq, rfl, hba, hbel⟩ := hrel
            obtain ⟨wp, rfl⟩ : ∃ wp : World, wp = wr := ⟨_, rfl⟩
            have HBA := Lib.hid hba
            have HBEL := Lib.hid hbel
            have hcl := cnt_le p S
            clear hba hbel
            by_cases hlt3 : p < k
            · have hpi : (p : Int) < k := by omega
              have hq3 : q ≤ 32 := by rw [hq]; exact Nat.le_trans (Nat.div_le_self _ _) (by omega)
              have hSp : S p = decide (q % 2 = 1) := by rw [HS.out, hq]; rfl
              have hdiv : (q : Int) / 2 = (((t + 1) / 2 ^ (p + 1) : Nat) : Int) := by rw [← bit_half, hq]; omega
              have HD := Lib.hid hdiv
              obtain ⟨c, hc⟩ : ∃ c, c = cnt p S := ⟨_, rfl⟩
              have hcs : cnt (p + 1) S = if S p = true then c + 1 else c := by rw [cnt, hc]; split <;> rfl
              rw [← hc] at hcl ⊢
              have HCS := Lib.hid hcs
              clear hdiv hq hc hcs
              by_cases hbit : q % 2 = 1
              · have hS1 : S p = true := by rw [hSp]; simpa using hbit
                have hbi : ((q : Int) % 2 == 1) = true := by simp; omega
                have hcc : cnt (p + 1) S = c + 1 := by rw [HCS.out, if_pos hS1]
                have HNB := Lib.hid (nb_yes (i := p) (adj := adjB rows) hS1)
                have HCC := Lib.hid hcc
                clear hSp hbit hcc HCS
                go_wp2_with fail
                go_loopg [15] (k + 1) (fun g i wx => ∃ j : Nat, j ≤ k ∧ k - j < g ∧ i = .int .i64 j ∧ BoolsAt Gb wx Gb k (fun z => if z < j then nb (p + 1) (adjB rows) S z else nb p (adjB rows) S z) ∧ Below w.heap.size w wx)
                case atStart => exact ⟨0, by omega, by omega, rfl, HBA.out.congr (fun z _ => by rw [if_neg (by omega)]), HBEL.out⟩
                case round =>
                  obtain ⟨j, hj, hg, rfl, hba, hbel⟩ := hrel
                  have HBB := Lib.hid hba
                  have HBF := Lib.hid hbel
                  by_cases hlt4 : j < k
                  · have hji : (j : Int) < k := by omega
                    have hcell := hba.cell j hlt4
                    have hfree := hba.free j
                    rw [if_neg (by omega)] at hcell
                    have HNJ := Lib.hid (HNB.out j)
                    clear hba hbel
                    cases hnb : nb p (adjB rows) S j
                    · rw [hnb] at hcell
                      obtain ⟨b, off, rfl, hbb⟩ := HR.out.some (show 0 < k by omega)
                      obtain ⟨b2, off2, rc, hc1, hc2⟩ := (HR.out.call HBF.out).elem hlt3 (j := j) (by rw [HSQ.out.2 p hlt3]; exact hlt4)
                      obtain ⟨x, hx⟩ : ∃ x, x = (rows.getD p []).getD j 0 := ⟨_, rfl⟩
                      rw [← hx] at hc2
                      rw [HSQ.out.2 p hlt3] at hc1
                      have hadj : adjB rows p j = (x != 0) := by rw [hx]; rfl
                      have HN2 := Lib.hid (show nb (p + 1) (adjB rows) S j = (x != 0) by rw [HNJ.out, hnb, hadj]; rfl)
                      clear hx hadj hnb
                      go_wp2_with fail
                      go_roundg (k - j)
                      case measure => omega
                      case rel => exact ⟨j + 1, by omega, by omega, by go_num, (HBB.out.store hlt4 (x != 0)).congr (fun z hz => by
                        by_cases e : z = j
                        · subst e; rw [if_pos rfl, if_pos (by omega), HN2.out]
                        · rw [if_neg e]; by_cases e2 : z < j
                          · rw [if_pos e2, if_pos (by omega)]
                          · rw [if_neg e2, if_neg (by omega)]), HBF.out.setCell (p := ⟨Gb, j, none⟩) hwG _⟩
                    · rw [hnb] at hcell
                      have HN2 := Lib.hid (show nb (p + 1) (adjB rows) S j = true by rw [HNJ.out, hnb]; rfl)
                      clear hnb
                      go_wp2_with fail
                      go_roundg (k - j)
                      case measure => omega
                      case rel => exact ⟨j + 1, by omega, by omega, by go_num, (HBB.out.store hlt4 true).congr (fun z hz => by
                        by_cases e : z = j
                        · subst e; rw [if_pos rfl, if_pos (by omega), HN2.out]
                        · rw [if_neg e]; by_cases e2 : z < j
                          · rw [if_pos e2, if_pos (by omega)]
                          · rw [if_neg e2, if_neg (by omega)]), HBF.out.setCell (p := ⟨Gb, j, none⟩) hwG _⟩
                  · obtain rfl : j = k := by omega
                    have HB6 := Lib.hid (hba.congr (f' := nb (p + 1) (adjB rows) S) (fun z hz => by rw [if_pos hz]))
                    clear hba hbel
                    go_wp2_with fail
                    go_roundg (j - p)
                    case measure => omega
                    case rel => exact ⟨p + 1, (t + 1) / 2 ^ (p + 1), by omega, by omega, by rw [HCC.out]; go_num, by rw [HD.out], rfl, by go_num, HB6.out, HBF.out⟩
              · have hS1 : S p = false := by rw [hSp]; simpa using hbit
                have hbi : ((q : Int) % 2 == 1) = false := by simp; omega
                have hcc : cnt (p + 1) S = c := by rw [HCS.out, if_neg (by rw [hS1]; decide)]
                have HNB := Lib.hid (nb_no (i := p) (adj := adjB rows) hS1)
                have HCC := Lib.hid hcc
                clear hSp hbit hcc HCS
                go_wp2_with fail
                go_roundg (k - p)
                case measure => omega
                case rel => exact ⟨p + 1, (t + 1) / 2 ^ (p + 1), by omega, by omega, by rw [HCC.out], by rw [HD.out], rfl, by go_num, HBA.out.congr (fun z _ => (HNB.out z).symm), HBEL.out⟩
            · obtain rfl : p = k := by omega
              have hmc := Misses_any Gb p p (nb p (adjB rows) S) wp (by omega) HBA.out.cell
              have hmb := miss_bd (nb p (adjB rows) S) p
              have hmd : (p : Int) - missTo (nb p (adjB rows) S) p = cnt p (nb p (adjB rows) S) := by unfold missTo; omega
              obtain ⟨ms, hms⟩ : ∃ ms, ms = missTo (nb p (adjB rows) S) p := ⟨_, rfl⟩
              have hbadI : badS p (adjB rows) (t + 1) = decide ((p : Int) - ms < (cnt p S : Nat)) := by
                unfold badS
                rw [hms, hmd, HS.out]
                by_cases h : cnt p (nb p (adjB rows) (bitOf (t + 1))) < cnt p (bitOf (t + 1))
                · rw [decide_eq_true h, decide_eq_true (by omega)]
                · rw [decide_eq_false h, decide_eq_false (by omega)]
              rw [← hms] at hmc hmb
              obtain ⟨hm1, hm2⟩ := hmb
              have HMC := Lib.hid hmc
              have hst : shortTo p (adjB rows) (t + 1) = (shortTo p (adjB rows) t || decide ((p : Int) - ms < (cnt p S : Nat))) := by rw [shortTo, hbadI]
              have HST := Lib.hid hst
              obtain ⟨c, hc⟩ : ∃ c, c = cnt p S := ⟨_, rfl⟩
              rw [← hc] at hcl HST ⊢
              clear hms hmd hbadI hst hmc hc
              cases hsh : shortTo p (adjB rows) t
              · have HS2 := Lib.hid hsh
                clear hsh
                go_wp2_with (go_at_call 8; refine HMC.out.mono ?_; rintro e w6 ⟨rfl, rfl⟩)
                go_roundg (P2 - (t + 1))
                case measure => omega
                case rel => exact ⟨t + 1, by omega, by omega, by rw [HST.out, HS2.out]; rfl, by go_num, HBEL.out⟩
              · have HS2 := Lib.hid hsh
                clear hsh
                go_wp2_with fail
                go_roundg (P2 - (t + 1))
                case measure => omega
                case rel => exact ⟨t + 1, by omega, by omega, by rw [HST.out, HS2.out]; rfl, by go_num, HBEL.out⟩
        · have hti : ¬ (t : Int) + 1 < P2 := by omega
          have htp : t = P2 - 1 := by omega
          have hfin : ((V == 0) == shortTo k (adjB rows) t) = true := by rw [htp, HP2.out]; exact HP3.out
          have HFIN := Lib.hid hfin
          have HBEL := Lib.hid hbel
          clear hfin htp hbel
          go_wp2_with fail
          go_at_call 7
          refine (HT.out _).mono ?_
          rintro e w4 ⟨rfl, rfl⟩
          go_wp2_with fail
          go_ret
          exact ⟨ret_bool HFIN.out, HBEL.out⟩
theorem PermPairs_any (a : Option Addr) (n cap : Nat) (rows : List (List Int)) {w' : World} (hr : RowsAt w' a n rows) (hcap : n ≤ cap) (hs : Small n rows) (w : World) (e : w' = w) :
    Calls Try.prog 3 #[.slice a n cap] w fun e w' => e = .returned (.bool true) ∧ Below w.heap.size w w' := by
  subst e
  by_cases he : sqErr rows 5 (-9) 9 = 0
  · exact pairs_good a n cap rows w' hr hcap hs he
  · exact pairs_bad a n cap rows w' hr hcap hs he
theorem frame_own : ownKnob Try.prog.godebug = none := by kernel_rfl
theorem frame_laid : laidOutB Try.prog = true := by kernel_rfl
set_option maxRecDepth 100000 in
theorem frame_lifted (os : Os) (started : os.Started) (H : Type) (enc : TypeId × Value → H) :
    ReturnsInHanded {} Try.checked os 3 .any (Rows.permPairsSpec.pre6 enc Try.prog Try.f3 Rows.permPairsRow.domain false) (Rows.permPairsSpec.post enc Try.prog Try.f3 false true false false) := by
  refine returnsInHanded_of_change (C := Try.checked) frame_own started (by kernel_rfl) Try.func3
    (ChangeSpec.witness6 (enc := enc) (C := Try.checked) false ⟨#[], #[.slice none 0 0], []⟩ 8 (by kernel_rfl) (by kernel_rfl) (by kernel_rfl) (by kernel_rfl)) ?_
  intro W base args ds gs before hval0 hW hcnd _
  have hval : ∀ (j : Nat) t v, Try.f3.params[j]? = some t → args[j]? = some v → Value.okWide Try.prog W .any base t v := hval0
  have hW' := hW
  obtain ⟨p, q, hA0, hV, rfl, hfz, hnd⟩ := hW
  have hA : DataW.TrodAll enc Try.prog W 0 (fun _ => true) true Try.f3.params.toList args.toList ds p := hA0
  rw [Try.params3] at hA hval
  obtain ⟨v0, vs0, d0, ds0, p0, q0, hargs, rfl, rfl, h0, r0⟩ := trodAll_cons hA
  obtain ⟨rfl, rfl, rfl⟩ := trodAll_nil r0
  obtain rfl : args = #[v0] := by cases args; simp_all
  obtain ⟨rfl, rfl⟩ := trodVars_none hV
  have k0 := h0
  have lt0 : ∀ x ∈ p0, x.block < W.heap.size := by obtain ⟨m, hm⟩ := k0; exact DataW.trod_lt m _ _ _ hm
  obtain ⟨a0, len0, cap0, rfl⟩ := okWide_slice Try.underlying22 (hval 0 22 v0 rfl rfl)
  obtain ⟨xs0, hxs0, hcap0, hmax0⟩ := open_rowsAt Try.underlying22 Try.underlying31 Try.underlying3 (by kernel_rfl) (by kernel_rfl) h0
  clear hA0 hval0
  refine (PermPairs_any a0 len0 cap0 xs0 hxs0 hcap0 hmax0 W rfl).mono fun e W' ⟨he, bel⟩ => ?_
  subst he
  exact ⟨_, rfl, _, _, _, [], _, [], hW', trodAll_mk1 (shut_bool Try.underlying4 _), (trodAll_cons_mk (Below.trod frame_laid (by kernel_rfl) (of_decide_eq_true (by kernel_rfl)) k0 bel lt0) trodAll_mk0), rfl, bel.frame _, fun h => by cases h⟩

theorem PermPairs_over : Rows.permPairsRow.holds Try.pinned (OpenSpec.ofChange Rows.permPairsSpec) :=
  OpenClaim.holds_of_wide 3 Try.f3 rfl rfl rfl rfl rfl rfl rfl ⟨rfl, rfl, rfl, rfl, rfl⟩ rfl rfl rfl rfl rfl (by kernel_rfl) Try.func3 (by kernel_rfl)
    (of_decide_eq_true (by kernel_rfl)) (by unfold Func.isWrapper; first | (rw [if_pos (by decide +kernel)]; kernel_rfl) | (rw [if_neg (by decide +kernel)]; exact ⟨rfl, rfl⟩))
    (fun os started H enc _ => frame_lifted os started H enc)

/-- THE STATEMENT -/
theorem PermPairs_holds : Rows.PermPairsSaid := PermPairs_over
end Go.Proofs.Ytacdhgenpcgddaa.PermPairsP
