/- Plain law: what pfaff.Of answers of matrices that are made out of one. No program in sight. -/
import Derived.Test.YtdpdopgngpamnaaPfFn
import Derived.Test.YtdpdopgngpamnaaPfLin
import Derived.Test.YtdpdopgngpamnaaSqOf
import Derived.Test.YtdpdopgngpamnaaFlip
namespace Go.Proofs.Ytdpdopgngpamnaa
open Go.RowKit
set_option linter.unusedVariables false
set_option linter.unusedSimpArgs false

/-- a matrix by its entries -/
theorem pf_by {n : Nat} {A : List (List Int)} {M : Nat → Nat → Int} (hs : Sq n A) (h0 : 0 < n) (h6 : n ≤ 6) (he : ∀ i j, i < n → j < n → fn A i j = M i j) (hb : ∀ i j, i < n → j < n → -9 ≤ M i j ∧ M i j ≤ 9) (hk : Skew n M) :
    skErr A = 0 ∧ pfV A = pfF n M := by
  have hent : Ent 9 A := ent_of (by omega) hs (fun i j hi hj => by rw [he i j hi hj]; exact hb i j hi hj)
  have hsq := sqErr_of (most := 6) hs h0 (by omega) hent
  have hsk : Skew A.length (fn A) := by
    rw [hs.1]
    intro i j hi hj
    rw [he i j hi hj, he j i hj hi]
    exact hk i j hi hj
  have h1 := skErr_of hsq hsk
  refine ⟨h1, ?_⟩
  unfold pfV
  rw [if_pos h1, hs.1, pfN_F]
  exact pfF_congr n he
theorem pf_self {rows : List (List Int)} (h : skErr rows = 0) : pfV rows = pfF rows.length (fn rows) := by
  unfold pfV
  rw [if_pos h, pfN_F]
theorem pfF_odd (n : Nat) (M : Nat → Nat → Int) (h : n % 2 = 1) : pfF n M = 0 := by
  have : ∀ n, n % 2 = 1 → ∀ M, pfF n M = 0 := by
    intro n
    induction n using Nat.strongRecOn with
    | _ n ih =>
      match n, ih with
      | 0, _ => intro h; omega
      | 1, _ => intro _ M; rfl
      | n + 2, ih =>
        intro h M
        rw [pfF]
        have : sumTo (fun j => sgn j * M 0 (j + 1) * pfF n (minor (minor M (j + 1) (j + 1)) 0 0)) (n + 1) = sumTo (fun _ => 0) (n + 1) :=
          sumTo_congr fun j hj => by rw [ih n (by omega) (by omega), Int.mul_zero]
        rw [this, sumTo_zero]
  exact this n h M

/-- turned -/
theorem pfV_flip {rows : List (List Int)} {n : Nat} (hl : rows.length = n) (h : skErr rows = 0) : skErr (flipTo rows n n) = 0 ∧ pfV (flipTo rows n n) = if n % 4 = 2 then -pfV rows else pfV rows := by
  subst hl
  obtain ⟨h1, h2, h3, h4, h5⟩ := skErr_good h
  obtain ⟨g1, g2⟩ := pf_by (M := fun i j => fn rows j i) (sq_flip rows) h4 h3 (fun i j hi hj => fn_flipTo rows hi hj) (fun i j _ _ => h2 j i) (fun i j hi hj => h5 j i hj hi)
  refine ⟨g1, ?_⟩
  rw [g2, pf_self h]
  by_cases hodd : rows.length % 2 = 1
  · rw [pfF_odd _ _ hodd, pfF_odd _ _ hodd]; split <;> rfl
  · rw [pf_flip _ h3 (by omega) _ h5]
    split <;> omega
/-- two rows and columns exchanged, as the law does it -/
theorem pfV_swap {rows : List (List Int)} {n : Nat} (hl : rows.length = n) (h : skErr rows = 0) {i j : Nat} (hi : i < n) (hj : j < n) (hij : i ≠ j) :
    skErr (flipTo (swapL (flipTo (swapL rows i j) n n) i j) n n) = 0 ∧ pfV (flipTo (swapL (flipTo (swapL rows i j) n n) i j) n n) = -pfV rows := by
  subst hl
  obtain ⟨h1, h2, h3, h4, h5⟩ := skErr_good h
  have e : ∀ a b, a < rows.length → b < rows.length → fn (flipTo (swapL (flipTo (swapL rows i j) rows.length rows.length) i j) rows.length rows.length) a b = swapB (fn rows) i j a b := by
    intro a b ha hb
    rw [fn_flipTo _ ha hb, fn_swapL (sq_flip _) hi hj, fn_flipTo _ (sw_lt hi hj hb) ha, fn_swapL h1 hi hj]
    rfl
  obtain ⟨g1, g2⟩ := pf_by (M := swapB (fn rows) i j) (sq_flip _) h4 h3 e (fun a b _ _ => h2 _ _) (h5.swap hi hj)
  refine ⟨g1, ?_⟩
  rw [g2, pf_self h]
  by_cases hodd : rows.length % 2 = 1
  · rw [pfF_odd _ _ hodd, pfF_odd _ _ hodd]; rfl
  · exact pf_swap _ h3 (by omega) _ h5 i j hi hj hij
end Go.Proofs.Ytdpdopgngpamnaa
