/- Contracts of the reference's Gcd, Content, Parts. -/
import Derived.Test.YtllomialkiaccaaDoorSmLaw
import Derived.Test.YtllomialkiaccaaDoorGcd
import Derived.Test.YtllomialkiaccaaDoorRAbs
import Derived.Test.YtllomialkiaccaaDoorRDet
import Derived.Test.YtllomialkiaccaaDoorWithout
import Derived.Deep.LoopGhost
import Derived.BigQuiet
import Derived.RegionTactic
namespace Go.Proofs.YtllomialkiaccaaDoor
open Go.RowKit
set_option linter.unusedVariables false
set_option linter.unusedSimpArgs false

theorem gcdI_zero (a : Int) : gcdI a 0 = absI a := by unfold gcdI absI; simp [Int.gcd]; split <;> omega
theorem gcdI_step {a b : Int} (h : b ≠ 0) : gcdI a b = gcdI b (a.tmod b) := by
  unfold gcdI
  simp only [Int.gcd, Int.natAbs_tmod]
  rw [Nat.gcd_comm, Nat.gcd_rec, Nat.gcd_comm]
set_option maxHeartbeats 1000000 in
theorem RGcd_any (N : Nat) : ∀ (a b : Int) (w : World), b.natAbs ≤ N → a.natAbs ≤ 1000000000000 → b.natAbs ≤ 1000000000000 →
    Calls Tryd.prog 13 #[.int .i64 a, .int .i64 b] w fun e w' => e = .returned (.int .i64 (gcdI a b)) ∧ Below w.heap.size w w' := by
  induction N with
  | zero =>
    intro a b w h1 h2 h3
    obtain rfl : b = 0 := by omega
    rw [gcdI_zero]
    have hA := RAbs_any a w (by omega) (by omega)
    clear h1 h2 h3
    go_enter Tryd.func13, Tryd.ntmps13
    go_wp2_with fail
    go_at_call 6
    refine (hA).mono ?_
    rintro e w1 ⟨rfl, rfl⟩
    go_wp2_with fail
    go_ret
    exact ⟨rfl, Below.refl _ _⟩
  | succ N ih =>
    intro a b w h1 h2 h3
    by_cases h0 : b = 0
    · subst h0
      rw [gcdI_zero]
      have hA := RAbs_any a w (by omega) (by omega)
      clear h1 h2 h3 ih
      go_enter Tryd.func13, Tryd.ntmps13
      go_wp2_with fail
      go_at_call 6
      refine (hA).mono ?_
      rintro e w1 ⟨rfl, rfl⟩
      go_wp2_with fail
      go_ret
      exact ⟨rfl, Below.refl _ _⟩
    · have hlt : (a.tmod b).natAbs < b.natAbs := by rw [Int.natAbs_tmod]; exact Nat.mod_lt _ (by omega)
      have hI := ih b (a.tmod b) w (by omega) h3 (by omega)
      rw [← gcdI_step h0] at hI
      have hw : IntKind.i64.wrap (a.tmod b) = a.tmod b := IntWalk.i64_in _ (by omega)
      have hb0 : (b == 0) = false := by simp [h0]
      generalize gcdI a b = g at *
      have HI := Lib.hid hI
      obtain ⟨r, hr⟩ : ∃ r, r = a.tmod b := ⟨_, rfl⟩
      rw [← hr] at hw HI
      have hr' : a.tmod b = r := hr.symm
      clear ih h1 h2 h3 hlt hI hr
      go_enter Tryd.func13, Tryd.ntmps13
      go_wp2_with fail
      go_at_call 13
      refine (HI.out).mono ?_
      rintro e w1 ⟨rfl, hb⟩
      go_wp2_with fail
      go_ret
      exact ⟨rfl, hb⟩

def conTo (f : Nat → Int) : Nat → Int
  | 0 => 0
  | k + 1 => gcdI (conTo f k) (f k)
def oneTo (M : Nat → Nat → Int) (n : Nat) : Nat → Int
  | 0 => 0
  | i + 1 => gcdI (oneTo M n i) (conTo (M i) n)
def twoIn (M : Nat → Nat → Int) (n i : Nat) (acc : Int) : Nat → Int
  | 0 => acc
  | j + 1 => gcdI (twoIn M n i acc j) (G (-1) (n - 1) (minor M i j))
def twoTo (M : Nat → Nat → Int) (n : Nat) : Nat → Int
  | 0 => 0
  | i + 1 => twoIn M n i (twoTo M n i) n
theorem gcdI_le {N : Nat} {a b : Int} (h : a.natAbs ≤ N) (k : b.natAbs ≤ N) : (gcdI a b).natAbs ≤ N := by
  unfold gcdI
  rw [Int.natAbs_natCast]
  by_cases h0 : b = 0
  · subst h0; simpa [Int.gcd] using h
  · have : Int.gcd a b ≤ b.natAbs := Nat.gcd_le_right _ (by omega)
    omega
theorem conTo_bd {f : Nat → Int} {N : Nat} : ∀ k, (∀ i, i < k → (f i).natAbs ≤ N) → (conTo f k).natAbs ≤ N
  | 0, _ => Nat.zero_le _
  | k + 1, h => gcdI_le (conTo_bd k fun i hi => h i (by omega)) (h k (by omega))
theorem oneTo_bd {M : Nat → Nat → Int} {n N : Nat} (h : ∀ i j, (M i j).natAbs ≤ N) : ∀ k, (oneTo M n k).natAbs ≤ N
  | 0 => Nat.zero_le _
  | k + 1 => gcdI_le (oneTo_bd h k) (conTo_bd n fun i _ => h k i)
theorem twoIn_bd {M : Nat → Nat → Int} {n i N : Nat} {acc : Int} (ha : acc.natAbs ≤ N) (h : ∀ i j, (G (-1) (n - 1) (minor M i j)).natAbs ≤ N) : ∀ k, (twoIn M n i acc k).natAbs ≤ N
  | 0 => ha
  | k + 1 => gcdI_le (twoIn_bd ha h k) (h i k)
theorem twoTo_bd {M : Nat → Nat → Int} {n N : Nat} (h : ∀ i j, (G (-1) (n - 1) (minor M i j)).natAbs ≤ N) : ∀ k, (twoTo M n k).natAbs ≤ N
  | 0 => Nat.zero_le _
  | k + 1 => twoIn_bd (twoTo_bd h k) h n
theorem dvd_con {d : Int} {f : Nat → Int} : ∀ k, d ∣ conTo f k ↔ ∀ i, i < k → d ∣ f i
  | 0 => by simp [conTo]
  | k + 1 => by
    rw [conTo, dvd_gcdI, dvd_con k]
    exact ⟨fun h i hi => by rcases Nat.lt_succ_iff_lt_or_eq.1 hi with h1 | h1; exact h.1 i h1; exact h1 ▸ h.2, fun h => ⟨fun i hi => h i (by omega), h k (by omega)⟩⟩
theorem dvd_oneTo {d : Int} {M : Nat → Nat → Int} {n : Nat} : ∀ k, d ∣ oneTo M n k ↔ ∀ i, i < k → ∀ j, j < n → d ∣ M i j
  | 0 => by simp [oneTo]
  | k + 1 => by
    rw [oneTo, dvd_gcdI, dvd_oneTo k, dvd_con]
    exact ⟨fun h i hi => by rcases Nat.lt_succ_iff_lt_or_eq.1 hi with h1 | h1; exact h.1 i h1; exact h1 ▸ h.2, fun h => ⟨fun i hi => h i (by omega), h k (by omega)⟩⟩
theorem dvd_twoIn {d acc : Int} {M : Nat → Nat → Int} {n i : Nat} : ∀ k, d ∣ twoIn M n i acc k ↔ d ∣ acc ∧ ∀ j, j < k → d ∣ G (-1) (n - 1) (minor M i j)
  | 0 => by simp [twoIn]
  | k + 1 => by
    rw [twoIn, dvd_gcdI, dvd_twoIn k]
    exact ⟨fun h => ⟨h.1.1, fun i hi => by rcases Nat.lt_succ_iff_lt_or_eq.1 hi with h1 | h1; exact h.1.2 i h1; exact h1 ▸ h.2⟩, fun h => ⟨⟨h.1, fun i hi => h.2 i (by omega)⟩, h.2 k (by omega)⟩⟩
theorem dvd_twoTo {d : Int} {M : Nat → Nat → Int} {n : Nat} : ∀ k, d ∣ twoTo M n k ↔ ∀ i, i < k → ∀ j, j < n → d ∣ G (-1) (n - 1) (minor M i j)
  | 0 => by simp [twoTo]
  | k + 1 => by
    rw [twoTo, dvd_twoIn, dvd_twoTo k]
    exact ⟨fun h i hi => by rcases Nat.lt_succ_iff_lt_or_eq.1 hi with h1 | h1; exact h.1 i h1; exact h1 ▸ h.2, fun h => ⟨fun i hi => h i (by omega), h k (by omega)⟩⟩
theorem oneTo_nonneg (M : Nat → Nat → Int) (n : Nat) : ∀ k, 0 ≤ oneTo M n k
  | 0 => Int.le_refl _
  | _ + 1 => gcdI_nonneg _ _
theorem twoIn_nonneg (M : Nat → Nat → Int) (n i : Nat) {acc : Int} (h : 0 ≤ acc) : ∀ k, 0 ≤ twoIn M n i acc k
  | 0 => h
  | _ + 1 => gcdI_nonneg _ _
theorem twoTo_nonneg (M : Nat → Nat → Int) (n : Nat) : ∀ k, 0 ≤ twoTo M n k
  | 0 => Int.le_refl _
  | k + 1 => twoIn_nonneg _ _ _ (twoTo_nonneg M n k) _
theorem one_div {n : Nat} (h0 : 0 < n) (hn : n ≤ 3) (M : Nat → Nat → Int) : oneTo M n n = divV n 1 M :=
  dvd_eq (oneTo_nonneg _ _ _) (div_nonneg _ _ _) fun d => by
    rw [dvd_oneTo, dvd_one h0 hn]
    exact ⟨fun h i j hi hj => h i hi j hj, fun h i hi j hj => h i j hi hj⟩
theorem two_div (M : Nat → Nat → Int) : twoTo M 3 3 = divV 3 2 M := by
  refine dvd_eq (twoTo_nonneg _ _ _) (div_nonneg _ _ _) fun d => ?_
  rw [dvd_twoTo, dvd_two]
  have key : ∀ i j, G (-1) (3 - 1) (minor M i j) = m2 M (sk i 0) (sk i 1) (sk j 0) (sk j 1) := fun i j => G2 _
  constructor
  · intro h
    have h0 : ∀ a b, a < b → b < 3 → ∃ i, i < 3 ∧ sk i 0 = a ∧ sk i 1 = b := by
      intro a b hab hb
      have : (a = 0 ∧ b = 1) ∨ (a = 0 ∧ b = 2) ∨ (a = 1 ∧ b = 2) := by omega
      rcases this with ⟨rfl, rfl⟩ | ⟨rfl, rfl⟩ | ⟨rfl, rfl⟩
      · exact ⟨2, by omega, rfl, rfl⟩
      · exact ⟨1, by omega, rfl, rfl⟩
      · exact ⟨0, by omega, rfl, rfl⟩
    have h1 : ∀ a b, a < b → b < 3 → ∀ c e, c < e → e < 3 → d ∣ m2 M a b c e := by
      intro a b hab hb c e hce he
      obtain ⟨i, hi, rfl, rfl⟩ := h0 a b hab hb
      obtain ⟨j, hj, rfl, rfl⟩ := h0 c e hce he
      rw [← key]; exact h i hi j hj
    have h2 : ∀ a b, a < b → b < 3 → ∀ c e, c < 3 → e < 3 → d ∣ m2 M a b c e := by
      intro a b hab hb c e hc he
      rcases Nat.lt_trichotomy c e with h | h | h
      · exact h1 a b hab hb c e h he
      · subst h; rw [m2_same']; exact Int.dvd_zero _
      · rw [m2_cols]; exact Int.dvd_neg.2 (h1 a b hab hb e c h hc)
    intro a b c e ha hb hc he
    rcases Nat.lt_trichotomy a b with h | h | h
    · exact h2 a b h hb c e hc he
    · subst h; rw [m2_same]; exact Int.dvd_zero _
    · rw [m2_rows]; exact Int.dvd_neg.2 (h2 b a h ha c e hc he)
  · intro h i hi j hj
    rw [key]
    have : ∀ i x, x < 2 → sk i x < 3 := fun i x hx => by unfold sk; split <;> omega
    exact h _ _ _ _ (this i 0 (by omega)) (this i 1 (by omega)) (this j 0 (by omega)) (this j 1 (by omega))

theorem HContent_any (a : Option Addr) (n cap : Nat) (xs : List Int) (w : World) (hx : IntsAt w a n xs) (hn : n ≤ 1000) (hb : ∀ i, i < n → (xs.getD i 0).natAbs ≤ 1000000) :
    Calls Tryd.prog 14 #[.slice a n cap] w fun e w' => e = .returned (.int .i64 (conTo (fun j => xs.getD j 0) n)) ∧ Below w.heap.size w w' := by
  have HX := Lib.hid hx
  have HB := Lib.hid hb
  clear hx hb
  go_enter Tryd.func14, Tryd.ntmps14
  go_wp2_with fail
  go_loopg [3, 4] (n + 1) (fun g s i wr => ∃ k : Nat, k ≤ n ∧ n - k < g ∧ s = .int .i64 (conTo (fun j => xs.getD j 0) k) ∧ i = .int .i64 k ∧ Below w.heap.size w wr)
  case atStart => exact ⟨0, by omega, by omega, rfl, rfl, Below.refl _ _⟩
  case round =>
    obtain ⟨k, hk, hg, rfl, rfl, hbel⟩ := hrel
    by_cases hlt : k < n
    · obtain ⟨b, off, rfl, hcell⟩ := (HX.out.call hbel).2 k hlt
      have h1 := HB.out k hlt
      have h2 := conTo_bd (f := fun j => xs.getD j 0) k (fun i hi => HB.out i (by omega))
      have hG := RGcd_any _ (conTo (fun j => xs.getD j 0) k) (xs.getD k 0) wr (Nat.le_refl _) (by omega) (by omega)
      have hsn : conTo (fun j => xs.getD j 0) (k + 1) = gcdI (conTo (fun j => xs.getD j 0) k) (xs.getD k 0) := rfl
      rw [← hsn] at hG
      generalize conTo (fun j => xs.getD j 0) k = s at *
      generalize xs.getD k 0 = x at *
      have HG := Lib.hid hG
      have hk0 : (0 : Int) ≤ k := by omega
      have hk1 : (k : Int) < n := by omega
      clear hG hsn h1 h2
      go_wp2_with fail
      go_at_call 13
      refine (HG.out).mono ?_
      rintro e w1 ⟨rfl, hb1⟩
      have hb2 := below_trans hbel hb1
      go_wp2_with fail
      go_roundg (n - k)
      case measure => omega
      case rel => exact ⟨k + 1, by omega, by omega, rfl, by go_num, hb2⟩
    · obtain rfl : k = n := by omega
      go_wp2_with fail
      go_ret
      exact ⟨rfl, hbel⟩

/-- Without any row and column -/
theorem Without_at (a : Option Addr) (n cap i j : Nat) (rows : List (List Int)) (w : World) (hr : RowsAt w a n rows) (hn : n ≤ 1000) (hcap : n ≤ cap) (hs : Sq n rows) (hi : i < n) (hj : j < n) :
    Calls Tryd.prog 15 #[.slice a n cap, .int .i64 i, .int .i64 j] w fun e w' => ∃ a' cap', e = .returned (.slice a' (n - 1) cap') ∧ n - 1 ≤ cap' ∧ RowsAt w' a' (n - 1) (cut rows i j) ∧ Below w.heap.size w w' := by
  refine (Without_any a n n cap rows i j w hr hn hn hcap hs.2 (by omega) (by omega)).mono ?_
  rintro e w1 ⟨⟨vw, rfl, hvw⟩, hb1⟩
  obtain ⟨a', cap', rfl, h1, h2, h3⟩ := hvw.rowsAt
  obtain ⟨m, rfl⟩ : ∃ m, n = m + 1 := ⟨n - 1, by omega⟩
  have hc := (hs.cut hi hj).1
  simp only [Int.toNat_natCast] at h1 h3 ⊢
  rw [hc] at h1 h3 ⊢
  exact ⟨a', cap', rfl, h1, h3, hb1⟩
theorem cut_sq' {n i j : Nat} {rows : List (List Int)} (hs : Sq n rows) (hi : i < n) (hj : j < n) : Sq (n - 1) (cut rows i j) := by
  obtain ⟨m, rfl⟩ : ∃ m, n = m + 1 := ⟨n - 1, by omega⟩
  exact hs.cut hi hj
theorem minor_det_bd {n : Nat} {rows : List (List Int)} (h : HerOk n rows) (i j : Nat) : (G (-1) (n - 1) (minor (fn rows) i j)).natAbs ≤ 48000 := by
  have hent : Ent 20 rows := fun a b => by have : (fn rows a b).natAbs ≤ 20 := h.ent a b; show -20 ≤ fn rows a b ∧ fn rows a b ≤ 20; omega
  have h1 := detN_bd (n - 1) (hent.cut i j)
  have h2 := bnd20 (n := n - 1) (by have := h.le; omega)
  rw [detN_G, fn_cut] at h1
  omega

set_option maxRecDepth 100000 in
set_option maxHeartbeats 2000000 in
theorem HParts_any (b off n cap : Nat) (rows : List (List Int)) (w : World) (hr : RowsAt w (some ⟨b, off, none⟩) n rows) (hcap : n ≤ cap) (hk : HerOk n rows) :
    Calls Tryd.prog 5 #[.slice (some ⟨b, off, none⟩) n cap] w fun e w' => (∃ g c, e = .returned (.slice (some ⟨g, 0, none⟩) n c) ∧ IntsAt w' (some ⟨g, 0, none⟩) n (partsTo n (fn rows) n)) ∧ Below w.heap.size w w' := by
  have hn1 := hk.pos
  have hn3 := hk.le
  have hbd := hk.bd
  have hD := Lib.hid (fun w (h : RowsAt w (some ⟨b, off, none⟩) n rows) => RDet_any n (some ⟨b, off, none⟩) cap rows w (by omega) hcap hk.sq h)
  rw [detN_G, wrap_in (by omega) (by omega)] at hD
  have HR := Lib.hid hr
  have HK := Lib.hid hk
  have hone : ∀ k, (oneTo (fn rows) n k).natAbs ≤ 20 := oneTo_bd hk.ent
  have htwo : ∀ k, (twoTo (fn rows) n k).natAbs ≤ 48000 := twoTo_bd (minor_det_bd hk)
  have HONE := Lib.hid hone
  have HTWO := Lib.hid htwo
  have hall := div_all hn1 hn3 (fn rows)
  obtain ⟨d, hd⟩ : ∃ d, d = G (-1) n (fn rows) := ⟨_, rfl⟩
  rw [← hd] at hD hbd hall
  have hdn : (absI d) = divV n n (fn rows) := by rw [hall]; unfold absI; split <;> omega
  have HDN := Lib.hid hdn
  clear hr hk hone htwo hall hd hdn
  go_enter Tryd.func5, Tryd.ntmps5
  go_wp2_with fail
  go_loopg [3, 4, 5] (n + 1) (fun g s t i wr => ∃ k : Nat, k ≤ n ∧ n - k < g ∧ s = .int .i64 (oneTo (fn rows) n k) ∧ t = .int .i64 (twoTo (fn rows) n k) ∧ i = .int .i64 k ∧ Below w.heap.size w wr)
  case atStart => exact ⟨0, by omega, by omega, rfl, rfl, rfl, Below.refl _ _⟩
  case round =>
    obtain ⟨k, hk, hg, rfl, rfl, rfl, hbel⟩ := hrel
    by_cases hlt : k < n
    · obtain ⟨ra, rc, hcr, hc1, hc2, hc3, hI⟩ := (HR.out.call hbel).row hlt
      have hlen := HK.out.sq.2 k hlt
      rw [hlen] at hcr hI
      have hC := HContent_any ra n rc (rows.getD k []) wr hI (by omega) (fun i hi => by have : (fn rows k i).natAbs ≤ 20 := HK.out.ent k i; show (fn rows k i).natAbs ≤ _; omega)
      have hcb := conTo_bd (f := fn rows k) n (fun i _ => HK.out.ent k i)
      have h1 := HONE.out k
      have hC : Calls Tryd.prog 14 #[.slice ra n rc] wr fun e w' => e = .returned (.int .i64 (conTo (fn rows k) n)) ∧ Below wr.heap.size wr w' := hC
      have hG := fun W => RGcd_any _ (oneTo (fn rows) n k) (conTo (fn rows k) n) W (Nat.le_refl _) (by omega) (by omega)
      have hsn : oneTo (fn rows) n (k + 1) = gcdI (oneTo (fn rows) n k) (conTo (fn rows k) n) := rfl
      have HSN := Lib.hid hsn
      have hst : twoTo (fn rows) n (k + 1) = twoIn (fn rows) n k (twoTo (fn rows) n k) n := rfl
      have HST := Lib.hid hst
      have h2 := HTWO.out k
      obtain ⟨acc, hacc⟩ : ∃ acc, acc = twoTo (fn rows) n k := ⟨_, rfl⟩
      rw [← hacc] at HST h2 ⊢
      generalize oneTo (fn rows) n k = s at *
      generalize conTo (fn rows k) n = x at *
      have HG := Lib.hid hG
      have HCC := Lib.hid hC
      have hk0 : (0 : Int) ≤ k := by omega
      have hk1 : (k : Int) < n := by omega
      clear hG hsn hst h1 hI hlen hC hcb hacc hc1 hc2 hc3
      go_wp2_with fail
      go_at_call 14
      refine (HCC.out).mono ?_
      rintro e w1 ⟨rfl, hb1⟩
      go_wp2_with fail
      go_at_call 13
      refine (HG.out _).mono ?_
      rintro e w2 ⟨rfl, hb2⟩
      have hB2 := below_trans hbel (below_trans hb1 hb2)
      rw [← HSN.out]
      clear hb1 hb2 hbel hcr
      go_wp2_with fail
      go_loopg [4, 6] (n + 1) (fun g t j wr => ∃ l : Nat, l ≤ n ∧ n - l < g ∧ t = .int .i64 (twoIn (fn rows) n k acc l) ∧ j = .int .i64 l ∧ Below w.heap.size w wr)
      case atStart => exact ⟨0, by omega, by omega, rfl, rfl, hB2⟩
      case round =>
        obtain ⟨l, hl, hgl, rfl, rfl, hbel⟩ := hrel
        by_cases hll : l < n
        · have hmb := minor_det_bd HK.out k l
          have hib := twoIn_bd (M := fn rows) (n := n) (i := k) h2 (minor_det_bd HK.out) l
          have hcs := cut_sq' HK.out.sq hlt hll
          have hsn2 : twoIn (fn rows) n k acc (l + 1) = gcdI (twoIn (fn rows) n k acc l) (G (-1) (n - 1) (minor (fn rows) k l)) := rfl
          have hW := Without_at (some ⟨b, off, none⟩) n cap k l rows wr (HR.out.call hbel) (by omega) hcap HK.out.sq hlt hll
          have hDm := fun (a' : Option Addr) (c' : Nat) W (hc' : n - 1 ≤ c') (h : RowsAt W a' (n - 1) (cut rows k l)) => RDet_any (n - 1) a' c' (cut rows k l) W (by omega) hc' hcs h
          rw [detN_G, fn_cut] at hDm
          generalize G (-1) (n - 1) (minor (fn rows) k l) = y at *
          rw [wrap_in (by omega) (by omega)] at hDm
          have hG := fun W => RGcd_any _ (twoIn (fn rows) n k acc l) y W (Nat.le_refl _) (by omega) (by omega)
          rw [← hsn2] at hG
          generalize twoIn (fn rows) n k acc l = z at *
          have HG2 := Lib.hid hG
          have HW := Lib.hid hW
          have HDM := Lib.hid hDm
          clear hsn2 hcs hmb hib hG hW hDm
          go_wp2_with fail
          go_at_call 15
          refine (HW.out).mono ?_
          rintro e w3 ⟨a', c', rfl, hc', hrr, hb3⟩
          go_wp2_with fail
          go_at_call 7
          refine (HDM.out _ _ _ hc' hrr).mono ?_
          rintro e w4 ⟨rfl, hb4⟩
          go_wp2_with fail
          go_at_call 13
          refine (HG2.out _).mono ?_
          rintro e w5 ⟨rfl, hb5⟩
          have hB5 := below_trans hbel (below_trans hb3 (below_trans hb4 hb5))
          clear hrr hb3 hb4 hb5
          go_wp2_with fail
          go_roundg (n - l)
          case measure => omega
          case rel => exact ⟨l + 1, by omega, by omega, rfl, by go_num, hB5⟩
        · obtain rfl : l = n := by omega
          rw [← HST.out]
          go_wp2_with fail
          go_roundg (l - k)
          case measure => omega
          case rel => exact ⟨k + 1, by omega, by omega, rfl, rfl, by go_num, hbel⟩
    · obtain rfl : k = n := by omega
      go_wp2_with fail
      go_at_call 7
      refine (hD.out _ (HR.out.call hbel)).mono ?_
      rintro e w3 ⟨rfl, hb3⟩
      go_wp2_with fail
      go_at_call 6
      refine (RAbs_any _ _ (by omega) (by omega)).mono ?_
      rintro e w4 ⟨rfl, rfl⟩
      have hB3 := below_trans hbel hb3
      rw [HDN.out, one_div hn1 hn3]
      have h123 : k = 1 ∨ k = 2 ∨ k = 3 := by omega
      have hdr1 := div_range HK.out (k := 1) (by omega) (by omega)
      have hdrk := div_range HK.out (k := k) (by omega) (by omega)
      rcases h123 with rfl | rfl | rfl
      · have hp : partsTo 1 (fn rows) 1 = [divV 1 1 (fn rows)] := by
          show [] ++ [(divV 1 1 (fn rows)).tdiv 1] = _
          rw [Int.tdiv_one]; rfl
        have HP := Lib.hid hp
        generalize divV 1 1 (fn rows) = D at *
        clear hp hdr1 hdrk
        go_wp2_with fail
        go_ret
        refine ⟨⟨w3.heap.size, 1, rfl, ?_⟩, hB3.alloc hB3.size _⟩
        rw [HP.out]
        refine ⟨rfl, fun i hi => ?_⟩
        match i, hi with
        | 0, _ => exact ⟨w3.heap.size, 0, rfl, by go_simp⟩
      · have hp : partsTo 2 (fn rows) 2 = [divV 2 1 (fn rows), (divV 2 2 (fn rows)).tdiv (divV 2 1 (fn rows))] := by
          show ([] ++ [(divV 2 1 (fn rows)).tdiv 1]) ++ [(divV 2 2 (fn rows)).tdiv (divV 2 1 (fn rows))] = _
          rw [Int.tdiv_one]; rfl
        have HP := Lib.hid hp
        obtain ⟨q, hq1, hq2, hq3, hq4⟩ := fac HK.out (k := 1) (by omega)
        have hq1 : q = (divV 2 2 (fn rows)).tdiv (divV 2 1 (fn rows)) := hq1
        rw [← hq1] at HP
        generalize divV 2 2 (fn rows) = D at *
        generalize divV 2 1 (fn rows) = E at *
        have hw : IntKind.i64.wrap (D.tdiv E) = q := by rw [← hq1]; exact IntWalk.i64_in _ (by omega)
        have hE : (E == 0) = false := by simp; omega
        have hE2 : E ≠ 0 := by omega
        clear hp hdr1 hdrk hq1 hq2
        go_wp2_with fail
        go_ret
        refine ⟨⟨w3.heap.size, 2, rfl, ?_⟩, hB3.alloc hB3.size _⟩
        rw [HP.out]
        exact IntsAt_two _ _ _ _ (by go_simp) (by go_simp)
      · have hp : partsTo 3 (fn rows) 3 = [divV 3 1 (fn rows), (divV 3 2 (fn rows)).tdiv (divV 3 1 (fn rows)), (divV 3 3 (fn rows)).tdiv (divV 3 2 (fn rows))] := by
          show (([] ++ [(divV 3 1 (fn rows)).tdiv 1]) ++ [(divV 3 2 (fn rows)).tdiv (divV 3 1 (fn rows))]) ++ [(divV 3 3 (fn rows)).tdiv (divV 3 2 (fn rows))] = _
          rw [Int.tdiv_one]; rfl
        have HP := Lib.hid hp
        rw [two_div]
        have hdr2 := div_range HK.out (k := 2) (by omega) (by omega)
        obtain ⟨q, hq1, hq2, hq3, hq4⟩ := fac HK.out (k := 1) (by omega)
        have hq1 : q = (divV 3 2 (fn rows)).tdiv (divV 3 1 (fn rows)) := hq1
        obtain ⟨p, hp1, hp2, hp3, hp4⟩ := fac HK.out (k := 2) (by omega)
        have hp1 : p = (divV 3 3 (fn rows)).tdiv (divV 3 2 (fn rows)) := hp1
        rw [← hq1, ← hp1] at HP
        generalize divV 3 3 (fn rows) = D at *
        generalize divV 3 2 (fn rows) = F at *
        generalize divV 3 1 (fn rows) = E at *
        have hw : IntKind.i64.wrap (F.tdiv E) = q := by rw [← hq1]; exact IntWalk.i64_in _ (by omega)
        have hw2 : IntKind.i64.wrap (D.tdiv F) = p := by rw [← hp1]; exact IntWalk.i64_in _ (by omega)
        have hE : (E == 0) = false := by simp; omega
        have hE2 : E ≠ 0 := by omega
        have hF : (F == 0) = false := by simp; omega
        have hF2 : F ≠ 0 := by omega
        clear hp hdr1 hdrk hdr2 hq1 hq2 hp1 hp2
        go_wp2_with fail
        go_region
        go_wp2_with fail
        go_ret
        refine ⟨⟨w3.heap.size, 3, rfl, ?_⟩, ?_⟩
        · rw [HP.out]
          refine ⟨rfl, fun i hi => ?_⟩
          match i, hi with
          | 0, _ => exact ⟨w3.heap.size, 0, rfl, by go_simp⟩
          | 1, _ => exact ⟨w3.heap.size, 0, rfl, by go_simp⟩
          | 2, _ => exact ⟨w3.heap.size, 0, rfl, by go_simp⟩
        · exact (hB3.alloc hB3.size _).trans Cls.start
end Go.Proofs.YtllomialkiaccaaDoor
