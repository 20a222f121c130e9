/- Small laws that the statements on invariant factors share. -/
import Derived.Test.YtllomialkiaccaaSmLaw
import Derived.Test.YtllomialkiaccaaSqOf
import Derived.Test.YtllomialkiaccaaPut
import Derived.Deep.QuietTactic
namespace Go.Proofs.Ytllomialkiaccaa.SmT
open Go.RowKit
open Go.Proofs.Ytllomialkiaccaa
set_option linter.unusedVariables false
set_option linter.unusedSimpArgs false

theorem below_drewN (w : World) (n : Nat) : Below w.heap.size w (w.drewN n) := ⟨rfl, rfl, rfl, Nat.le_refl _, fun _ _ => rfl⟩
theorem some_err {n : Nat} {rows A : List (List Int)} (hk : HerOk n rows) (hs : Sq n A) (hd : G (-1) n (fn A) ≠ 0) : herErr A = 0 ∨ herErr A = 1 := by
  unfold herErr
  have hp := hk.pos
  have hle := hk.le
  rcases sqErr_or (most := 3) (lo := -20) (hi := 20) hs hp (by omega) with g | g
  · left
    rw [if_pos g, hs.1, if_neg hd]
  · right
    rw [if_neg (by omega), g]
theorem small_sq {n : Nat} {A : List (List Int)} (hn : n ≤ 3) (hA : Sq n A) : Small n A := ⟨by omega, fun k hk => by rw [hA.2 k hk]; omega⟩


theorem parts_at {n : Nat} {rows : List (List Int)} (h : HerOk n rows) {s : Nat} (hs : s < n) : 1 ≤ (partsTo n (fn rows) n).getD s 0 ∧ (partsTo n (fn rows) n).getD s 0 ≤ 48000 := by
  obtain ⟨q, h1, h2, h3, h4⟩ := fac h hs
  rw [partsTo_at n _ n s hs, ← h1]
  exact ⟨h3, h4⟩
theorem prod_bd {n : Nat} {rows : List (List Int)} (h : HerOk n rows) {s : Nat} (hs : s ≤ n) : 1 ≤ prodTo n (fn rows) s ∧ prodTo n (fn rows) s ≤ 48000 := by
  rw [prod_last h s hs]
  exact last_range h hs
/-- a row, or a column, so many times added to another one, as far as c -/
def opTo (M : Nat → Nat → Int) (p q : Nat) (k : Int) (turn : Bool) (c a b : Nat) : Int :=
  if turn then (if b = p ∧ a < c then M a p + k * M a q else M a b) else (if a = p ∧ b < c then M p b + k * M q b else M a b)
theorem op_row {n : Nat} {A : List (List Int)} {M : Nat → Nat → Int} {p q c : Nat} {k x : Int} (hs : Sq n A) (hp : p < n) (hc : c < n) (hx : x = M p c + k * M q c) (h : ∀ a b, a < n → b < n → fn A a b = opTo M p q k false c a b) :
    ∀ a b, a < n → b < n → fn (putE A p c x) a b = opTo M p q k false (c + 1) a b := by
  intro a b ha hb
  rw [fn_put hs hp hc, h a b ha hb, hx]
  unfold opTo
  simp only [Bool.false_eq_true, if_false]
  by_cases h1 : a = p
  · by_cases h4 : b = c
    · rw [if_pos ⟨h1, h4⟩, if_pos ⟨h1, by omega⟩, h4]
    · rw [if_neg (fun h => h4 h.2)]
      by_cases h5 : b < c
      · rw [if_pos ⟨h1, h5⟩, if_pos ⟨h1, by omega⟩]
      · rw [if_neg (fun h => h5 h.2), if_neg (by omega)]
  · rw [if_neg (fun h => h1 h.1), if_neg (fun h => h1 h.1), if_neg (fun h => h1 h.1)]
theorem op_col {n : Nat} {A : List (List Int)} {M : Nat → Nat → Int} {p q c : Nat} {k x : Int} (hs : Sq n A) (hp : p < n) (hc : c < n) (hx : x = M c p + k * M c q) (h : ∀ a b, a < n → b < n → fn A a b = opTo M p q k true c a b) :
    ∀ a b, a < n → b < n → fn (putE A c p x) a b = opTo M p q k true (c + 1) a b := by
  intro a b ha hb
  rw [fn_put hs hc hp, h a b ha hb, hx]
  unfold opTo
  simp only [if_true]
  by_cases h1 : b = p
  · by_cases h4 : a = c
    · rw [if_pos ⟨h4, h1⟩, if_pos ⟨h1, by omega⟩, h4]
    · rw [if_neg (fun h => h4 h.1)]
      by_cases h5 : a < c
      · rw [if_pos ⟨h1, h5⟩, if_pos ⟨h1, by omega⟩]
      · rw [if_neg (fun h => h5 h.2), if_neg (by omega)]
  · rw [if_neg (fun h => h1 h.2), if_neg (fun h => h1 h.1), if_neg (fun h => h1 h.1)]
theorem op_like {n : Nat} {A : List (List Int)} {M : Nat → Nat → Int} {p q : Nat} {k : Int} {turn : Bool} (hn : n ≤ 3) (hp : p < n) (hq : q < n) (hpq : p ≠ q) (h : ∀ a b, a < n → b < n → fn A a b = opTo M p q k turn n a b) :
    G (-1) n (fn A) = G (-1) n M ∧ ∀ d, 0 < d → d ≤ n → divV n d (fn A) = divV n d M := by
  cases turn
  · have e : ∀ a b, a < n → b < n → fn A a b = setRow M p (fun b => M p b + k * M q b) a b := by
      intro a b ha hb
      rw [h a b ha hb]
      unfold opTo setRow
      simp only [Bool.false_eq_true, if_false]
      by_cases h1 : a = p
      · rw [if_pos ⟨h1, hb⟩, if_pos h1]
      · rw [if_neg (fun h => h1 h.1), if_neg h1]
    exact ⟨by rw [G_congr (-1) n e, det_add n p q M k hp hq hpq], fun d h0 hd => by rw [div_congr h0 hd hn e, div_add h0 hd hn hp hq hpq]⟩
  · have e : ∀ a b, a < n → b < n → (fun i j => fn A j i) a b = setRow (fun i j => M j i) p (fun b => (fun i j => M j i) p b + k * (fun i j => M j i) q b) a b := by
      intro a b ha hb
      show fn A b a = _
      rw [h b a hb ha]
      unfold opTo setRow
      simp only [if_true]
      by_cases h1 : a = p
      · rw [if_pos ⟨h1, hb⟩, if_pos h1]
      · rw [if_neg (fun h => h1 h.1), if_neg h1]
    refine ⟨?_, fun d h0 hd => ?_⟩
    · rw [← G_flip (-1) n (fn A), G_congr (-1) n e, det_add n p q (fun i j => M j i) k hp hq hpq, G_flip]
    · rw [← div_flip h0 hd hn (fn A), div_congr h0 hd hn e, div_add h0 hd hn hp hq hpq, div_flip h0 hd hn]
end Go.Proofs.Ytllomialkiaccaa.SmT
