/- It proves that rankmerelaw4.PfaffTimes, called with any list of lists of integers and any three integers, returns true, and leaves its arguments as they were. There are no conditions. -/
import Derived.Test.YtdpdopgngpamnaaPfLaw
import Derived.Test.YtdpdopgngpamnaaPfFact
import Derived.Test.YtdpdopgngpamnaaHSkew
import Derived.Test.YtdpdopgngpamnaaRCopy
import Derived.Test.YtdpdopgngpamnaaLawIn
import Derived.Test.YtdpdopgngpamnaaPut
import Derived.Test.YtdpdopgngpamnaaOpen
import Derived.StillTailTactics
import Derived.ProofKit
import Derived.OpenShut
import Derived.ShutString
import Derived.ChangeOld
import Derived.Lib.SmallJoins
namespace Go.Proofs.Ytdpdopgngpamnaa.PfaffTimesP
open Go.ChangeShapes Go.WideShapes Go.ChangeAt Go.RowKit Go.Joins
open Go.ChangeMaps (open_string shut_string)
open Go.Proofs.Ytdpdopgngpamnaa
set_option linter.unusedVariables false
set_option linter.unusedSimpArgs false

/-- the matrix whose row and column i are so many times what they were, done as far as c -/
def scaleTo (M : Nat → Nat → Int) (i : Nat) (k : Int) (c a b : Nat) : Int := if a = i ∧ b < c then k * M i b else if b = i ∧ a < c then -(k * M i a) else M a b
def addTo (M : Nat → Nat → Int) (i j : Nat) (k : Int) (c a b : Nat) : Int := if a = i ∧ b < c ∧ b ≠ i then M i b + k * M j b else if b = i ∧ a < c ∧ a ≠ i then -(M i a + k * M j a) else M a b

theorem scale_step {n : Nat} {A : List (List Int)} {M : Nat → Nat → Int} {i c : Nat} {k : Int} (hs : Sq n A) (hi : i < n) (hc : c < n) (hd : M i i = 0) (h : ∀ a b, a < n → b < n → fn A a b = scaleTo M i k c a b) :
    ∀ a b, a < n → b < n → fn (putE (putE A i c (k * M i c)) c i (-(k * M i c))) a b = scaleTo M i k (c + 1) a b := by
  intro a b ha hb
  rw [fn_put (put_sq hs _ _ _) hc hi, fn_put hs hi hc, h a b ha hb]
  unfold scaleTo
  by_cases h1 : a = i <;> by_cases h2 : b = i <;> by_cases h3 : a = c <;> by_cases h4 : b = c <;> simp [h1, h2, h3, h4, hd] <;> grind
theorem add_step {n : Nat} {A : List (List Int)} {M : Nat → Nat → Int} {i j c : Nat} {k : Int} (hs : Sq n A) (hi : i < n) (hc : c < n) (hci : c ≠ i) (h : ∀ a b, a < n → b < n → fn A a b = addTo M i j k c a b) :
    ∀ a b, a < n → b < n → fn (putE (putE A i c (M i c + k * M j c)) c i (-(M i c + k * M j c))) a b = addTo M i j k (c + 1) a b := by
  intro a b ha hb
  rw [fn_put (put_sq hs _ _ _) hc hi, fn_put hs hi hc, h a b ha hb]
  unfold addTo
  by_cases h1 : a = i <;> by_cases h2 : b = i <;> by_cases h3 : a = c <;> by_cases h4 : b = c <;> simp [h1, h2, h3, h4] <;> grind
theorem add_skip {n : Nat} {A : List (List Int)} {M : Nat → Nat → Int} {i j : Nat} {k : Int} (h : ∀ a b, a < n → b < n → fn A a b = addTo M i j k i a b) : ∀ a b, a < n → b < n → fn A a b = addTo M i j k (i + 1) a b := by
  intro a b ha hb
  rw [h a b ha hb]
  unfold addTo
  by_cases h1 : a = i <;> by_cases h2 : b = i <;> simp [h1, h2] <;> grind

theorem pfV_after {n : Nat} {A : List (List Int)} {N : Nat → Nat → Int} (hs : Sq n A) (h0 : 0 < n) (h6 : n ≤ 6) (he : ∀ a b, a < n → b < n → fn A a b = N a b) (hk : Skew n N) :
    (skErr A = 0 ∧ pfV A = pfF n N) ∨ (skErr A = 1 ∧ pfV A = 0 ∧ sqErr A 6 (-9) 9 = 1) := by
  have hsk : Skew A.length (fn A) := by
    rw [hs.1]
    intro i j hi hj
    rw [he i j hi hj, he j i hj hi]
    exact hk i j hi hj
  rcases sqErr_or (most := 6) (lo := -9) (hi := 9) hs h0 (by omega) with h | h
  · left
    have h1 := skErr_of h hsk
    refine ⟨h1, ?_⟩
    unfold pfV
    rw [if_pos h1, hs.1, pfN_F]
    exact pfF_congr n he
  · right
    have h1 : skErr A = 1 := by unfold skErr; rw [if_pos (by omega)]; exact h
    exact ⟨h1, by unfold pfV; rw [if_neg (by omega)], h⟩
theorem skew_setB {n : Nat} {M : Nat → Nat → Int} (h : Skew n M) (i : Nat) (r : Nat → Int) : Skew n (setB M i r) := by
  intro a b ha hb
  unfold setB
  by_cases h1 : a = i <;> by_cases h2 : b = i <;> simp [h1, h2]
  exact h a b ha hb
theorem scale_end {n : Nat} {M : Nat → Nat → Int} {i : Nat} {k : Int} (hd : M i i = 0) (a b : Nat) (ha : a < n) (hb : b < n) : scaleTo M i k n a b = setB M i (fun c => k * M i c) a b := by
  unfold scaleTo setB
  by_cases h1 : a = i <;> by_cases h2 : b = i <;> simp [h1, h2, ha, hb, hd] <;> (intro h; omega)
theorem add_end {n : Nat} {M : Nat → Nat → Int} {i j : Nat} {k : Int} (hd : M i i = 0) (a b : Nat) (ha : a < n) (hb : b < n) : addTo M i j k n a b = setB M i (fun c => M i c + k * M j c) a b := by
  unfold addTo setB
  by_cases h1 : a = i <;> by_cases h2 : b = i <;> simp [h1, h2, ha, hb, hd] <;> (intro h; omega)
/-- so many times -/
theorem times_a {rows A : List (List Int)} {n i : Nat} {k : Int} (hl : rows.length = n) (h : skErr rows = 0) (hi : i < n) (hs : Sq n A) (he : ∀ a b, a < n → b < n → fn A a b = scaleTo (fn rows) i k n a b) :
    (skErr A = 0 ∧ pfV A = k * pfV rows) ∨ (skErr A = 1 ∧ pfV A = 0 ∧ sqErr A 6 (-9) 9 = 1) := by
  subst hl
  obtain ⟨h1, h2, h3, h4, h5⟩ := skErr_good h
  rcases pfV_after hs h4 h3 (N := setB (fn rows) i (fun c => k * fn rows i c)) (fun a b ha hb => by rw [he a b ha hb, scale_end (h5.diag hi) a b ha hb]) (skew_setB h5 _ _) with ⟨g1, g2⟩ | g
  · left
    refine ⟨g1, ?_⟩
    rw [g2, pf_self h]
    by_cases hodd : rows.length % 2 = 1
    · rw [pfF_odd _ _ hodd, pfF_odd _ _ hodd]; omega
    · exact pf_scale _ h3 h4 (by omega) _ h5 i hi k
  · right; exact g
theorem times_b {rows A : List (List Int)} {n i j : Nat} {k : Int} (hl : rows.length = n) (h : skErr rows = 0) (hi : i < n) (hj : j < n) (hij : i ≠ j) (hs : Sq n A) (he : ∀ a b, a < n → b < n → fn A a b = addTo (fn rows) i j k n a b) :
    (skErr A = 0 ∧ pfV A = pfV rows) ∨ (skErr A = 1 ∧ pfV A = 0 ∧ sqErr A 6 (-9) 9 = 1) := by
  subst hl
  obtain ⟨h1, h2, h3, h4, h5⟩ := skErr_good h
  rcases pfV_after hs h4 h3 (N := setB (fn rows) i (fun c => fn rows i c + k * fn rows j c)) (fun a b ha hb => by rw [he a b ha hb, add_end (h5.diag hi) a b ha hb]) (skew_setB h5 _ _) with ⟨g1, g2⟩ | g
  · left
    refine ⟨g1, ?_⟩
    rw [g2, pf_self h]
    by_cases hodd : rows.length % 2 = 1
    · rw [pfF_odd _ _ hodd, pfF_odd _ _ hodd]
    · exact pf_add _ h3 h4 (by omega) _ h5 i j hi hj hij k
  · right; exact g

set_option maxRecDepth 100000 in
theorem times_bad (a : Option Addr) (n cap : Nat) (rows : List (List Int)) (i j k : Int) (w : World) (hr : RowsAt w a n rows) (hcap : n ≤ cap) (hs : Small n rows) (he : skErr rows ≠ 0) :
    Calls Try.prog 4 #[.slice a n cap, .int .i64 i, .int .i64 j, .int .i64 k] w fun e w' => e = .returned (.bool true) ∧ Below w.heap.size w w' := by
  have hO := fun w (h : RowsAt w a n rows) => PfFn_any a n cap rows w h hcap hs
  have HR := Lib.hid hr
  have hv : pfV rows = 0 := by unfold pfV; rw [if_neg he]
  have hE : errV (skErr rows) = .iface 42 (.int .i64 (skErr rows)) := by unfold errV; rw [if_neg he]
  rw [hv, hE] at hO
  generalize skErr rows = e at *
  clear hr hs hE he hv
  go_enter Try.func4, Try.ntmps4
  go_wp2_with fail
  go_at_call 6
  refine (pfaffFact_any _).mono ?_
  rintro e w1 ⟨rfl, hb⟩
  go_wp2_with fail
  go_at_call 7
  refine (hO _ (HR.out.call hb)).mono ?_
  rintro e w2 ⟨rfl, hb2⟩
  go_wp2_with fail
  go_ret
  exact ⟨rfl, below_trans hb hb2⟩

set_option maxRecDepth 100000 in
set_option maxHeartbeats 2000000 in
theorem times_good (a : Option Addr) (n cap : Nat) (rows : List (List Int)) (i j k : Int) (w : World) (hr : RowsAt w a n rows) (hcap : n ≤ cap) (hs : Small n rows) (he : skErr rows = 0) :
    Calls Try.prog 4 #[.slice a n cap, .int .i64 i, .int .i64 j, .int .i64 k] w fun e w' => e = .returned (.bool true) ∧ Below w.heap.size w w' := by
  have hO := fun w (h : RowsAt w a n rows) => PfFn_any a n cap rows w h hcap hs
  have hl := hr.1
  obtain ⟨h1, h2, h3, h4, h5⟩ := skErr_good he
  rw [hl] at h1 h3 h4 h5
  have hsm : ∀ A, Sq n A → Small n A := fun A hA => ⟨by omega, fun k hk => by rw [hA.2 k hk]; omega⟩
  obtain ⟨hv1, hv2⟩ := pfV_bd rows
  rw [he, errV_zero] at hO
  have HR := Lib.hid hr
  have HS := Lib.hid h1
  have HE := Lib.hid he
  have HN := Lib.hid h2
  have HL := Lib.hid hl
  have HK := Lib.hid h5
  obtain ⟨v, hv⟩ : ∃ v, v = pfV rows := ⟨_, rfl⟩
  rw [← hv] at hO hv1 hv2
  have HV := Lib.hid hv
  have hn1 : (1 : Int) ≤ n := by omega
  clear hr hs he hl h1 h2 h5 hv
  go_enter Try.func4, Try.ntmps4
  go_wp2_with fail
  go_at_call 6
  refine (pfaffFact_any _).mono ?_
  rintro e w1 ⟨rfl, hb⟩
  go_wp2_with fail
  go_at_call 7
  refine (hO _ (HR.out.call hb)).mono ?_
  rintro e w2 ⟨rfl, hb2⟩
  have hB2 := below_trans hb hb2
  clear hb hb2 hO
  go_wp2_with fail
  go_at_call 9
  refine (in_any _ _ _ _).mono ?_
  rintro e w5 ⟨rfl, rfl⟩
  cases hbi : inB i 0 ((n : Int) - 1)
  · go_wp2_with fail
    go_ret
    exact ⟨rfl, hB2⟩
  go_wp2_with fail
  go_at_call 9
  refine (in_any _ _ _ _).mono ?_
  rintro e w5 ⟨rfl, rfl⟩
  cases hbj : inB j 0 ((n : Int) - 1)
  · go_wp2_with fail
    go_ret
    exact ⟨rfl, hB2⟩
  obtain ⟨hi0, hi1⟩ := inB_true hbi
  obtain ⟨hj0, hj1⟩ := inB_true hbj
  obtain ⟨p, rfl⟩ := Int.eq_ofNat_of_zero_le hi0
  obtain ⟨q, rfl⟩ := Int.eq_ofNat_of_zero_le hj0
  by_cases hpq : p = q
  · have hpb : ((p : Int) == (q : Int)) = true := by simp [hpq]
    clear hpq
    go_wp2_with fail
    go_ret
    exact ⟨rfl, hB2⟩
  have hpb : ((p : Int) == (q : Int)) = false := by simp; omega
  go_wp2_with fail
  go_at_call 9
  refine (in_any _ _ _ _).mono ?_
  rintro e w5 ⟨rfl, rfl⟩
  cases hbk : inB k (-9) 9
  · go_wp2_with fail
    go_ret
    exact ⟨rfl, hB2⟩
  obtain ⟨hk0, hk1⟩ := inB_true hbk
  have hp : p < n := by omega
  have hq : q < n := by omega
  have hp1 : (p : Int) < n := by omega
  have hq1 : (q : Int) < n := by omega
  clear hbi hbj hbk
  go_wp2_with fail
  go_at_call 10
  refine (RCopy_any _ n _ rows _ (HR.out.call hB2) (by omega) hcap (fun k hk => by rw [HS.out.2 k hk]; omega)).mono ?_
  rintro e w5 ⟨⟨va, rfl, hca⟩, hb5⟩
  have hB5 := below_trans hB2 hb5
  go_wp2_with fail
  go_at_call 10
  refine (RCopy_any _ n _ rows _ (HR.out.call hB5) (by omega) hcap (fun k hk => by rw [HS.out.2 k hk]; omega)).mono ?_
  rintro e w6 ⟨⟨vb, rfl, hcb⟩, hb6⟩
  have hB6 := below_trans hB5 hb6
  obtain ⟨vsa, hva⟩ := hca.vals
  obtain ⟨vsb, hvb⟩ := hcb.vals
  have hbd := hva.bound
  obtain ⟨Ga, capa, rfl, hcapa⟩ := hva.isRows (by rw [HL.out]; omega)
  obtain ⟨Gb, capb, rfl, hcapb⟩ := hvb.isRows (by rw [HL.out]; omega)
  rw [HL.out] at hva hvb hcapa hcapb hbd ⊢
  have hva6 := hva.call hb6
  have hva6' := hva6.mono (show w.heap.size ≤ w2.heap.size from hB2.size)
  have HVA := Lib.hid hva6'
  have HVB := Lib.hid hvb
  have HBD := Lib.hid hbd
  have hz5 := hB5.size
  clear hca hcb hva hvb hbd hva6 hva6' hb5 hb6 hB2
  go_wp2_with fail
  go_loopg [15] (n + 1) (fun g i wr => ∃ (c : Nat) (A C : List (List Int)), c ≤ n ∧ n - c < g ∧ i = .int .i64 c ∧ OwnRowsV wr w.heap.size (.slice (some ⟨Ga, 0, none⟩) n capa) vsa A ∧ OwnRowsV wr w5.heap.size (.slice (some ⟨Gb, 0, none⟩) n capb) vsb C ∧
    (Sq n A ∧ ∀ a b, a < n → b < n → fn A a b = scaleTo (fn rows) p k c a b) ∧ (Sq n C ∧ ∀ a b, a < n → b < n → fn C a b = addTo (fn rows) p q k c a b) ∧ Below w.heap.size w wr)
  case atStart => exact ⟨0, rows, rows, by omega, by omega, rfl, HVA.out, HVB.out, ⟨HS.out, fun a b _ _ => by simp [scaleTo]⟩, ⟨HS.out, fun a b _ _ => by simp [addTo]⟩, hB6⟩
  case round =>
    obtain ⟨c, A, C, hc, hg, rfl, hA, hC, hsA, hsC, hbel⟩ := hrel
    have HA := Lib.hid hA
    have HC := Lib.hid hC
    have HSA := Lib.hid hsA
    have HSC := Lib.hid hsC
    have hzr := hbel.size
    clear hA hC hsA hsC hB6
    by_cases hlt : c < n
    · obtain ⟨b, off, rfl, hb⟩ := HR.out.some (by omega)
      obtain ⟨bp, op, rcp, hmp, hmpc⟩ := HR.out.elem (i := p) hp (j := c) (by rw [HS.out.2 p hp]; exact hlt)
      obtain ⟨bq, oq, rcq, hmq, hmqc⟩ := HR.out.elem (i := q) hq (j := c) (by rw [HS.out.2 q hq]; exact hlt)
      rw [HS.out.2 p hp] at hmp
      rw [HS.out.2 q hq] at hmq
      obtain ⟨x, hx⟩ : ∃ x, x = fn rows p c := ⟨_, rfl⟩
      obtain ⟨y, hy⟩ : ∃ y, y = fn rows q c := ⟨_, rfl⟩
      rw [show (rows.getD p []).getD c 0 = x from hx.symm] at hmpc
      rw [show (rows.getD q []).getD c 0 = y from hy.symm] at hmqc
      have hbp : bp < w.heap.size := World.block_lt_of_cell? _ _ hmpc
      have hbq : bq < w.heap.size := World.block_lt_of_cell? _ _ hmqc
      have hm : ∀ W, Below w.heap.size w W → W.cell? ⟨b, off + p, none⟩ = some (.slice (some ⟨bp, op, none⟩) n rcp) ∧ W.cell? ⟨b, off + q, none⟩ = some (.slice (some ⟨bq, oq, none⟩) n rcq) ∧ W.cell? ⟨bp, op + c, none⟩ = some (.int .i64 x) ∧ W.cell? ⟨bq, oq + c, none⟩ = some (.int .i64 y) :=
        fun W h => ⟨by rw [h.cell (p := ⟨b, off + p, none⟩) hb]; exact hmp, by rw [h.cell (p := ⟨b, off + q, none⟩) hb]; exact hmq, by rw [h.cell (p := ⟨bp, op + c, none⟩) hbp]; exact hmpc, by rw [h.cell (p := ⟨bq, oq + c, none⟩) hbq]; exact hmqc⟩
      have HM := Lib.hid hm
      have hxb : -9 ≤ x ∧ x ≤ 9 := by rw [hx]; exact HN.out p c
      have hyb : -9 ≤ y ∧ y ≤ 9 := by rw [hy]; exact HN.out q c
      obtain ⟨hx1, hx2⟩ := hxb
      obtain ⟨hy1, hy2⟩ := hyb
      have hkx := bd_mul (B := 9) (C := 9) hk0 hk1 hx1 hx2
      have hky := bd_mul (B := 9) (C := 9) hk0 hk1 hy1 hy2
      obtain ⟨hkx1, hkx2⟩ := hkx
      obtain ⟨hky1, hky2⟩ := hky
      obtain ⟨t, ht⟩ : ∃ t, t = k * x := ⟨_, rfl⟩
      obtain ⟨s, hs⟩ : ∃ s, s = k * y := ⟨_, rfl⟩
      rw [← ht] at hkx1 hkx2
      rw [← hs] at hky1 hky2
      have HX := Lib.hid hx
      have HY := Lib.hid hy
      have HT := Lib.hid ht
      have HSS := Lib.hid hs
      have hw1 : k * x = t := ht.symm
      have hw2 : IntKind.i64.wrap (k * x) = t := by rw [hw1]; exact IntWalk.i64_in _ (by omega)
      have hc0 : (0 : Int) ≤ c := by omega
      have hc1 : (c : Int) < n := by omega
      clear hx hy ht hs hm hmp hmq hmpc hmqc
      obtain ⟨hm1, hm2, hm3, hm4⟩ := HM.out wr hbel
      obtain ⟨g1, rc1, ha1, hg1, hg1z, hg1n, he1, hf1, hac1, hst1⟩ := HA.out.at HSA.out.1 hp hlt
      have hstt := store_first hzr HC.out HBD.out (hst1 t) he1 hg1 hbel
      have HST := Lib.hid hstt
      have hsq1 := put_sq HSA.out.1 p c t
      have hfn1 := fn_put HSA.out.1 hp hlt t p c
      rw [if_pos ⟨rfl, rfl⟩] at hfn1
      have HSQ1 := Lib.hid hsq1
      have HFN1 := Lib.hid hfn1
      clear hst1 hstt hsq1 hfn1 he1
      go_wp2_with fail
      go_still_tail 15, (by kernel_rfl)
      go_wp2_with fail
      clear hm1 hm2 hm3 hm4 ha1 hg1z hg1n hf1 hac1 hg1 hw2
      generalize (wr.setCell ⟨g1, c, none⟩ (.int .i64 t)).drew = W1 at *
      obtain ⟨hA1, hC1, hbel1⟩ := HST.out
      obtain ⟨hm1, hm2, hm3, hm4⟩ := HM.out W1 hbel1
      obtain ⟨g2, rc2, ha2, hg2, hg2z, hg2n, he2, hf2, hac2, hst2⟩ := hA1.at HSQ1.out hlt hp
      obtain ⟨g3, rc3, ha3, hg3, hg3z, hg3n, he3, hf3, hac3, hst3⟩ := hA1.at HSQ1.out hp hlt
      rw [HFN1.out] at hac3
      have HST2 := Lib.hid (store_first (w := w) (by have := hbel1.size; omega) hC1 HBD.out (hst2 (-t)) he2 hg2 hbel1)
      clear hst2 hst3 he2 he3 hA1 hC1
      go_wp2_with fail
      go_still_tail 14, (by kernel_rfl)
      by_cases hcp : c = p
      · have hcb : ((c : Int) != (p : Int)) = false := by simp [hcp]
        have HCP := Lib.hid hcp
        clear hcp
        go_wp2_with fail
        clear hm1 hm2 hm3 hm4 ha2 hg2z hg2n hf2 hac2 hg2 ha3 hg3 hg3z hg3n hf3 hac3
        generalize (W1.setCell ⟨g2, p, none⟩ (.int .i64 (-t))).drew = W2 at *
        go_roundg (n - c)
        case measure => omega
        case rel =>
          obtain ⟨hA2, hC2, hbel2⟩ := HST2.out
          refine ⟨c + 1, _, C, by omega, by omega, by go_num, hA2, hC2, ⟨put_sq HSQ1.out _ _ _, ?_⟩, ⟨HSC.out.1, ?_⟩, hbel2⟩
          · rw [HT.out, HX.out]
            exact scale_step HSA.out.1 hp hlt (HK.out.diag hp) HSA.out.2
          · have := HSC.out.2
            rw [HCP.out] at this ⊢
            exact add_skip this
      · have hcb : ((c : Int) != (p : Int)) = true := by simp; omega
        have HCP := Lib.hid hcp
        clear hcp
        have hw3 : IntKind.i64.wrap (k * y) = s := by rw [← HSS.out]; exact IntWalk.i64_in _ (by omega)
        have hw4 : k * y = s := HSS.out.symm
        have hw5 : IntKind.i64.wrap (x + s) = x + s := IntWalk.i64_in _ (by omega)
        go_wp2_with fail
        clear hm1 hm2 hm3 hm4 ha2 hg2z hg2n hf2 hac2 hg2 ha3 hg3 hg3z hg3n hf3 hac3
        generalize (W1.setCell ⟨g2, p, none⟩ (.int .i64 (-t))).drew = W2 at *
        obtain ⟨hA2, hC2, hbel2⟩ := HST2.out
        obtain ⟨hm1, hm2, hm3, hm4⟩ := HM.out W2 hbel2
        obtain ⟨g4, rc4, ha4, hg4, hg4z, hg4n, he4, hf4, hac4, hst4⟩ := hC2.at HSC.out.1 hp hlt
        have HST4 := Lib.hid (store_second (w := w) hz5 hA2 HBD.out (hst4 (x + s)) hg4 hbel2)
        have HSQ4 := Lib.hid (put_sq HSC.out.1 p c (x + s))
        have hfn4 := fn_put HSC.out.1 hp hlt (x + s) p c
        rw [if_pos ⟨rfl, rfl⟩] at hfn4
        have HFN4 := Lib.hid hfn4
        clear hst4 he4 hfn4 hA2 hC2
        go_still_tail 23, (by kernel_rfl)
        go_wp2_with fail
        clear hm1 hm2 hm3 hm4 ha4 hg4z hg4n hf4 hac4 hg4
        generalize (W2.setCell ⟨g4, c, none⟩ (.int .i64 (x + s))).drew = W3 at *
        obtain ⟨hA3, hC3, hbel3⟩ := HST4.out
        obtain ⟨g5, rc5, ha5, hg5, hg5z, hg5n, he5, hf5, hac5, hst5⟩ := hC3.at HSQ4.out hlt hp
        obtain ⟨g6, rc6, ha6, hg6, hg6z, hg6n, he6, hf6, hac6, hst6⟩ := hC3.at HSQ4.out hp hlt
        rw [HFN4.out] at hac6
        have HST5 := Lib.hid (store_second (w := w) hz5 hA3 HBD.out (hst5 (-(x + s))) hg5 hbel3)
        clear hst5 hst6 he5 he6 hA3 hC3
        have hw6 : IntKind.i64.wrap (-(x + s)) = -(x + s) := IntWalk.i64_in _ (by omega)
        go_still_tail 14, (by kernel_rfl)
        go_wp2_with fail
        go_roundg (n - c)
        case measure => omega
        case rel =>
          obtain ⟨hA4, hC4, hbel4⟩ := HST5.out
          refine ⟨c + 1, _, _, by omega, by omega, by go_num, hA4, hC4, ⟨put_sq HSQ1.out _ _ _, ?_⟩, ⟨put_sq HSQ4.out _ _ _, ?_⟩, hbel4⟩
          · rw [HT.out, HX.out]
            exact scale_step HSA.out.1 hp hlt (HK.out.diag hp) HSA.out.2
          · rw [HSS.out, HX.out, HY.out]
            exact add_step HSC.out.1 hp hlt HCP.out HSC.out.2
    · obtain rfl : c = n := by omega
      have hra := HA.out.read
      have hrc := HC.out.read
      rw [HSA.out.1.1] at hra
      rw [HSC.out.1.1] at hrc
      have HRA := Lib.hid hra
      have HRC := Lib.hid hrc
      have hOa := fun w h => PfFn_any (some ⟨Ga, 0, none⟩) c capa A w h hcapa (hsm _ HSA.out.1)
      have hOb := fun w h => PfFn_any (some ⟨Gb, 0, none⟩) c capb C w h hcapb (hsm _ HSC.out.1)
      have ca := times_a HL.out HE.out hp HSA.out.1 HSA.out.2
      have cb := times_b HL.out HE.out hp hq hpq HSC.out.1 HSC.out.2
      rw [← HV.out] at ca cb
      have hkv := bd_mul (B := 9) (C := 10935) hk0 hk1 hv1 hv2
      obtain ⟨hkv1, hkv2⟩ := hkv
      clear hra hrc
      rcases ca with ⟨ea, xa⟩ | ⟨ea, xa, sa⟩ <;> rcases cb with ⟨eb, xb⟩ | ⟨eb, xb, sb⟩
      all_goals rw [ea, xa] at hOa
      all_goals rw [eb, xb] at hOb
      all_goals try rw [errV_zero] at hOa
      all_goals try rw [errV_zero] at hOb
      all_goals try rw [errV_pos (by decide)] at hOa
      all_goals try rw [errV_pos (by decide)] at hOb
      · clear ea xa eb xb
        go_wp2_with fail
        go_at_call 7
        refine (hOa _ HRA.out).mono ?_
        rintro e w7 ⟨rfl, hb7⟩
        go_wp2_with fail
        go_at_call 7
        refine (hOb _ (HRC.out.call hb7)).mono ?_
        rintro e w8 ⟨rfl, hb8⟩
        go_wp2_with fail
        go_ret
        exact ⟨rfl, hbel.trans ((below_trans hb7 hb8).mono hbel.size)⟩
      · have hS := fun w (h : RowsAt w (some ⟨Gb, 0, none⟩) c C) => HSkew_bad _ c capb C w h (hsm _ HSC.out.1) (by rw [sb]; decide)
        rw [sb] at hS
        clear ea xa eb xb sb
        go_wp2_with fail
        go_at_call 7
        refine (hOa _ HRA.out).mono ?_
        rintro e w7 ⟨rfl, hb7⟩
        go_wp2_with fail
        go_at_call 7
        refine (hOb _ (HRC.out.call hb7)).mono ?_
        rintro e w8 ⟨rfl, hb8⟩
        go_wp2_with fail
        go_at_call 11
        refine (hS _ (HRC.out.call (below_trans hb7 hb8))).mono ?_
        rintro e w9 ⟨rfl, hb9⟩
        go_wp2_with fail
        go_ret
        exact ⟨rfl, hbel.trans ((below_trans (below_trans hb7 hb8) hb9).mono hbel.size)⟩
      · have hS := fun w (h : RowsAt w (some ⟨Ga, 0, none⟩) c A) => HSkew_bad _ c capa A w h (hsm _ HSA.out.1) (by rw [sa]; decide)
        rw [sa] at hS
        clear ea xa eb xb sa
        go_wp2_with fail
        go_at_call 7
        refine (hOa _ HRA.out).mono ?_
        rintro e w7 ⟨rfl, hb7⟩
        go_wp2_with fail
        go_at_call 7
        refine (hOb _ (HRC.out.call hb7)).mono ?_
        rintro e w8 ⟨rfl, hb8⟩
        go_wp2_with fail
        go_at_call 11
        refine (hS _ (HRA.out.call (below_trans hb7 hb8))).mono ?_
        rintro e w9 ⟨rfl, hb9⟩
        go_wp2_with fail
        go_ret
        exact ⟨rfl, hbel.trans ((below_trans (below_trans hb7 hb8) hb9).mono hbel.size)⟩
      · have hS := fun w (h : RowsAt w (some ⟨Ga, 0, none⟩) c A) => HSkew_bad _ c capa A w h (hsm _ HSA.out.1) (by rw [sa]; decide)
        have hS2 := fun w (h : RowsAt w (some ⟨Gb, 0, none⟩) c C) => HSkew_bad _ c capb C w h (hsm _ HSC.out.1) (by rw [sb]; decide)
        rw [sa] at hS
        rw [sb] at hS2
        clear ea xa eb xb sa sb
        go_wp2_with fail
        go_at_call 7
        refine (hOa _ HRA.out).mono ?_
        rintro e w7 ⟨rfl, hb7⟩
        go_wp2_with fail
        go_at_call 7
        refine (hOb _ (HRC.out.call hb7)).mono ?_
        rintro e w8 ⟨rfl, hb8⟩
        go_wp2_with fail
        go_at_call 11
        refine (hS _ (HRA.out.call (below_trans hb7 hb8))).mono ?_
        rintro e w9 ⟨rfl, hb9⟩
        go_wp2_with fail
        go_at_call 11
        refine (hS2 _ (HRC.out.call (below_trans (below_trans hb7 hb8) hb9))).mono ?_
        rintro e w10 ⟨rfl, hb10⟩
        go_wp2_with fail
        go_ret
        exact ⟨rfl, hbel.trans ((below_trans (below_trans (below_trans hb7 hb8) hb9) hb10).mono hbel.size)⟩

theorem PfaffTimes_any (a : Option Addr) (n cap : Nat) (rows : List (List Int)) {w' : World} (hr : RowsAt w' a n rows) (hcap : n ≤ cap) (hs : Small n rows) (i j k : Int) (w : World) (e : w' = w) :
    Calls Try.prog 4 #[.slice a n cap, .int .i64 i, .int .i64 j, .int .i64 k] w fun e w' => e = .returned (.bool true) ∧ Below w.heap.size w w' := by
  subst e
  by_cases he : skErr rows = 0
  · exact times_good a n cap rows i j k w' hr hcap hs he
  · exact times_bad a n cap rows i j k w' hr hcap hs he
theorem frame_own : ownKnob Try.prog.godebug = none := by kernel_rfl
theorem frame_laid : laidOutB Try.prog = true := by kernel_rfl
set_option maxRecDepth 100000 in
theorem frame_lifted (os : Os) (started : os.Started) (H : Type) (enc : TypeId × Value → H) :
    ReturnsInHanded {} Try.checked os 4 .any (Rows.pfaffTimesSpec.pre6 enc Try.prog Try.f4 Rows.pfaffTimesRow.domain false) (Rows.pfaffTimesSpec.post enc Try.prog Try.f4 false true false false) := by
  refine returnsInHanded_of_change (C := Try.checked) frame_own started (by kernel_rfl) Try.func4
    (ChangeSpec.witness6 (enc := enc) (C := Try.checked) false ⟨#[], #[.slice none 0 0, .int .i64 0, .int .i64 0, .int .i64 0], []⟩ 8 (by kernel_rfl) (by kernel_rfl) (by kernel_rfl) (by kernel_rfl)) ?_
  intro W base args ds gs before hval0 hW hcnd _
  have hval : ∀ (j : Nat) t v, Try.f4.params[j]? = some t → args[j]? = some v → Value.okWide Try.prog W .any base t v := hval0
  have hW' := hW
  obtain ⟨p, q, hA0, hV, rfl, hfz, hnd⟩ := hW
  have hA : DataW.TrodAll enc Try.prog W 0 (fun _ => true) true Try.f4.params.toList args.toList ds p := hA0
  rw [Try.params4] at hA hval
  obtain ⟨v0, vs0, d0, ds0, p0, q0, hargs, rfl, rfl, h0, r0⟩ := trodAll_cons hA
  obtain ⟨v1, vs1, d1, ds1, p1, q1, rfl, rfl, rfl, h1, r1⟩ := trodAll_cons r0
  obtain ⟨v2, vs2, d2, ds2, p2, q2, rfl, rfl, rfl, h2, r2⟩ := trodAll_cons r1
  obtain ⟨v3, vs3, d3, ds3, p3, q3, rfl, rfl, rfl, h3, r3⟩ := trodAll_cons r2
  obtain ⟨rfl, rfl, rfl⟩ := trodAll_nil r3
  obtain rfl : args = #[v0, v1, v2, v3] := by cases args; simp_all
  obtain ⟨rfl, rfl⟩ := trodVars_none hV
  have k0 := h0
  have lt0 : ∀ x ∈ p0, x.block < W.heap.size := by obtain ⟨m, hm⟩ := k0; exact DataW.trod_lt m _ _ _ hm
  obtain ⟨a0, len0, cap0, rfl⟩ := okWide_slice Try.underlying22 (hval 0 22 v0 rfl rfl)
  obtain ⟨xs0, hxs0, hcap0, hmax0⟩ := open_rowsAt Try.underlying22 Try.underlying30 Try.underlying3 (by kernel_rfl) (by kernel_rfl) h0
  have k1 := h1
  have lt1 : ∀ x ∈ p1, x.block < W.heap.size := by obtain ⟨m, hm⟩ := k1; exact DataW.trod_lt m _ _ _ hm
  obtain ⟨a1, rfl, rfl, rfl, w1⟩ := open_int Try.underlying3 (hval 1 3 v1 rfl rfl) h1
  have k2 := h2
  have lt2 : ∀ x ∈ p2, x.block < W.heap.size := by obtain ⟨m, hm⟩ := k2; exact DataW.trod_lt m _ _ _ hm
  obtain ⟨a2, rfl, rfl, rfl, w2⟩ := open_int Try.underlying3 (hval 2 3 v2 rfl rfl) h2
  have k3 := h3
  have lt3 : ∀ x ∈ p3, x.block < W.heap.size := by obtain ⟨m, hm⟩ := k3; exact DataW.trod_lt m _ _ _ hm
  obtain ⟨a3, rfl, rfl, rfl, w3⟩ := open_int Try.underlying3 (hval 3 3 v3 rfl rfl) h3
  clear hA0 hval0
  refine (PfaffTimes_any a0 len0 cap0 xs0 hxs0 hcap0 hmax0 a1 a2 a3 W rfl).mono fun e W' ⟨he, bel⟩ => ?_
  subst he
  exact ⟨_, rfl, _, _, _, [], _, [], hW', trodAll_mk1 (shut_bool Try.underlying4 _), (trodAll_cons_mk (Below.trod frame_laid (by kernel_rfl) (of_decide_eq_true (by kernel_rfl)) k0 bel lt0) (trodAll_cons_mk (Below.trod frame_laid (by kernel_rfl) (of_decide_eq_true (by kernel_rfl)) k1 bel lt1) (trodAll_cons_mk (Below.trod frame_laid (by kernel_rfl) (of_decide_eq_true (by kernel_rfl)) k2 bel lt2) (trodAll_cons_mk (Below.trod frame_laid (by kernel_rfl) (of_decide_eq_true (by kernel_rfl)) k3 bel lt3) trodAll_mk0)))), rfl, bel.frame _, fun h => by cases h⟩

theorem PfaffTimes_over : Rows.pfaffTimesRow.holds Try.pinned (OpenSpec.ofChange Rows.pfaffTimesSpec) :=
  OpenClaim.holds_of_wide 4 Try.f4 rfl rfl rfl rfl rfl rfl rfl ⟨rfl, rfl, rfl, rfl, rfl⟩ rfl rfl rfl rfl rfl (by kernel_rfl) Try.func4 (by kernel_rfl)
    (of_decide_eq_true (by kernel_rfl)) (by unfold Func.isWrapper; first | (rw [if_pos (by decide +kernel)]; kernel_rfl) | (rw [if_neg (by decide +kernel)]; exact ⟨rfl, rfl⟩))
    (fun os started H enc _ => frame_lifted os started H enc)

/-- THE STATEMENT -/
theorem PfaffTimes_holds : Rows.PfaffTimesSaid := PfaffTimes_over
end Go.Proofs.Ytdpdopgngpamnaa.PfaffTimesP
