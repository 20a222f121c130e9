/- Plain law: ways seen from the end; ways but for the first one. No program in sight. -/
import Derived.Test.YtbafpiepadhmdaaDoorPathFact
namespace Go.Proofs.YtbafpiepadhmdaaDoor
open Go.RowKit
set_option linter.unusedVariables false
set_option linter.unusedSimpArgs false

/-- 6 less each, the last one first, k of them -/
def mirL (l : List Int) (n k : Nat) : List Int := (List.range k).map fun j => 6 - l.getD (n - 1 - j) 0
theorem mirL_succ (l : List Int) (n k : Nat) : mirL l n (k + 1) = mirL l n k ++ [6 - l.getD (n - 1 - k) 0] := by simp [mirL, List.range_succ]
theorem mirL_len (l : List Int) (n k : Nat) : (mirL l n k).length = k := by simp [mirL]
theorem rise1 {a : Nat} (h : a < 7) : riseErr [(a : Int)] = 0 := by
  unfold riseErr
  rw [riseFrom, if_neg (by simp [outB]; omega), if_neg (by omega)]
  rfl
theorem rise2 {a b : Nat} (h : a < b) (h2 : b < 7) : riseErr [(a : Int), (b : Int)] = 0 := by
  unfold riseErr
  rw [riseFrom, if_neg (by simp [outB]; omega), if_neg (by omega), riseFrom, if_neg (by simp [outB]; omega), if_neg (by omega)]
  rfl
theorem rise3 {a b c : Nat} (h : a < b) (h1 : b < c) (h2 : c < 7) : riseErr [(a : Int), (b : Int), (c : Int)] = 0 := by
  unfold riseErr
  rw [riseFrom, if_neg (by simp [outB]; omega), if_neg (by omega), riseFrom, if_neg (by simp [outB]; omega), if_neg (by omega), riseFrom, if_neg (by simp [outB]; omega), if_neg (by omega)]
  rfl
theorem path_ok {w : Nat} {f t : List Int} (hw : w < 5) (h0 : 0 < f.length) (h3 : f.length ≤ 3) (hl : t.length = f.length) (hf : riseErr f = 0) (ht : riseErr t = 0) : pathErr w f t = 0 := by
  unfold pathErr
  rw [if_neg (by simp [outB]; omega), if_neg (by omega), if_neg (by omega), if_neg (by omega), if_neg (by omega)]
  exact ht
theorem apartV_ok {w : Nat} {f t : List Int} (h : pathErr w f t = 0) : apartV w f t = G (-1) f.length (wayF w f t) := by
  unfold apartV
  rw [if_pos h, Int.toNat_natCast]
theorem six (a : Nat) (h : a < 7) : (6 : Int) - (a : Int) = ((6 - a : Nat) : Int) := by omega
/-- what the statement asks -/
structure MirOk (width : Int) (f t : List Int) (n : Nat) : Prop where
  err : pathErr width (mirL t n n) (mirL f n n) = 0
  val : apartV width (mirL t n n) (mirL f n n) = apartV width f t
  one : n = 1 → pathErr width (f.drop 1) (t.drop 1) = 5 ∧ apartV width (f.drop 1) (t.drop 1) = 0
  rest : n ≠ 1 → pathErr width (f.drop 1) (t.drop 1) = 0
  low : n ≠ 1 → t.getD 0 0 < f.getD 0 0 → apartV width f t = 0
  high : n ≠ 1 → f.getD 0 0 ≤ t.getD 0 0 → waysE width (t.getD 0 0 - f.getD 0 0) = 0 ∧ apartV width f t ≤ apartV width (f.drop 1) (t.drop 1) * waysV width (t.getD 0 0 - f.getD 0 0) ∧ 0 ≤ waysV width (t.getD 0 0 - f.getD 0 0) ∧ waysV width (t.getD 0 0 - f.getD 0 0) ≤ 210
theorem ways_at {w a a' : Nat} (hw : w < 5) (h : a ≤ a') (h2 : a' < 7) : waysE w ((a' : Int) - a) = 0 ∧ waysV w ((a' : Int) - a) = wy w a a' := by
  have e : waysE w ((a' : Int) - a) = 0 := waysE_iff (by omega) (by omega) (by omega) (by omega)
  refine ⟨e, ?_⟩
  unfold waysV
  rw [if_pos e, Int.toNat_natCast, (way_ok hw (show a < 7 by omega) h2).1]
theorem mir_law {width : Int} {f t : List Int} {n : Nat} (h : pathErr width f t = 0) (hn : f.length = n) : MirOk width f t n := by
  obtain ⟨w, rfl, hw, ⟨a, a', rfl, rfl, h1, h2⟩ | ⟨a, b, a', b', rfl, rfl, h1, h2, h3, h4⟩ | ⟨a, b, c, a', b', c', rfl, rfl, h1, h2, h3, h4, h5, h6⟩⟩ := path_cases h
  · obtain rfl : n = 1 := by simpa using hn.symm
    have m1 : mirL [(a' : Int)] 1 1 = [((6 - a' : Nat) : Int)] := by rw [← six a' h2]; rfl
    have m2 : mirL [(a : Int)] 1 1 = [((6 - a : Nat) : Int)] := by rw [← six a h1]; rfl
    have e : pathErr w [((6 - a' : Nat) : Int)] [((6 - a : Nat) : Int)] = 0 := path_ok hw (by simp) (by simp) rfl (rise1 (by omega)) (rise1 (by omega))
    refine ⟨by rw [m1, m2]; exact e, ?_, fun _ => ⟨?_, ?_⟩, fun h => absurd rfl h, fun h => absurd rfl h, fun h => absurd rfl h⟩
    · rw [m1, m2, apartV_ok e, apartV_ok h]
      show G (-1) 1 _ = G (-1) 1 _
      rw [apart_one hw (by omega) (by omega), apart_one hw h1 h2, (way_ok hw h1 h2).2.2.2.2.1]
    · show pathErr w [] [] = 5
      unfold pathErr
      rw [if_neg (by simp [outB]; omega), if_pos (show ([] : List Int).length = 0 from rfl)]
    · show apartV w [] [] = 0
      have : pathErr w [] [] = 5 := by
        unfold pathErr
        rw [if_neg (by simp [outB]; omega), if_pos (show ([] : List Int).length = 0 from rfl)]
      unfold apartV
      rw [if_neg (by omega)]
  · obtain rfl : n = 2 := by simpa using hn.symm
    have m1 : mirL [(a' : Int), (b' : Int)] 2 2 = [((6 - b' : Nat) : Int), ((6 - a' : Nat) : Int)] := by rw [← six a' (by omega), ← six b' h4]; rfl
    have m2 : mirL [(a : Int), (b : Int)] 2 2 = [((6 - b : Nat) : Int), ((6 - a : Nat) : Int)] := by rw [← six a (by omega), ← six b h2]; rfl
    have e : pathErr w [((6 - b' : Nat) : Int), ((6 - a' : Nat) : Int)] [((6 - b : Nat) : Int), ((6 - a : Nat) : Int)] = 0 := path_ok hw (by simp) (by simp) rfl (rise2 (by omega) (by omega)) (rise2 (by omega) (by omega))
    have k := two_ok hw h2 h1 h4 h3
    have er : pathErr w [(b : Int)] [(b' : Int)] = 0 := path_ok hw (by simp) (by simp) rfl (rise1 h2) (rise1 h4)
    have ev : apartV w [(a : Int), (b : Int)] [(a' : Int), (b' : Int)] = wd2 w a b a' b' := by
      rw [apartV_ok h]
      exact apart_two hw h2 h1 h4 h3
    refine ⟨by rw [m1, m2]; exact e, ?_, fun h => by omega, fun _ => er, fun _ hlt => ?_, fun _ hle => ?_⟩
    · rw [m1, m2, apartV_ok e, ev]
      show G (-1) 2 _ = _
      rw [apart_two hw (by omega) (by omega) (by omega) (by omega), k.2.2.1]
    · rw [ev]
      exact k.2.2.2.2 (by have : (a' : Int) < a := hlt; omega)
    · have hle : (a : Int) ≤ a' := hle
      obtain ⟨w1, w2⟩ := ways_at (a := a) (a' := a') hw (by omega) (by omega)
      have w3 := way_ok hw (show a < 7 by omega) (show a' < 7 by omega)
      refine ⟨w1, ?_, by show 0 ≤ waysV w ((a' : Int) - a); rw [w2]; exact w3.2.1, by show waysV w ((a' : Int) - a) ≤ 210; rw [w2]; exact w3.2.2.1⟩
      show apartV w [(a : Int), (b : Int)] [(a' : Int), (b' : Int)] ≤ apartV w [(b : Int)] [(b' : Int)] * waysV w ((a' : Int) - a)
      rw [ev, w2, apartV_ok er]
      show _ ≤ G (-1) 1 _ * _
      rw [apart_one hw h2 h4]
      exact k.2.2.2.1 (by omega)
  · obtain rfl : n = 3 := by simpa using hn.symm
    have m1 : mirL [(a' : Int), (b' : Int), (c' : Int)] 3 3 = [((6 - c' : Nat) : Int), ((6 - b' : Nat) : Int), ((6 - a' : Nat) : Int)] := by rw [← six a' (by omega), ← six b' (by omega), ← six c' h6]; rfl
    have m2 : mirL [(a : Int), (b : Int), (c : Int)] 3 3 = [((6 - c : Nat) : Int), ((6 - b : Nat) : Int), ((6 - a : Nat) : Int)] := by rw [← six a (by omega), ← six b (by omega), ← six c h3]; rfl
    have e : pathErr w [((6 - c' : Nat) : Int), ((6 - b' : Nat) : Int), ((6 - a' : Nat) : Int)] [((6 - c : Nat) : Int), ((6 - b : Nat) : Int), ((6 - a : Nat) : Int)] = 0 := path_ok hw (by simp) (by simp) rfl (rise3 (by omega) (by omega) (by omega)) (rise3 (by omega) (by omega) (by omega))
    have k := three_ok hw h3 h2 h1 h6 h5 h4
    have er : pathErr w [(b : Int), (c : Int)] [(b' : Int), (c' : Int)] = 0 := path_ok hw (by simp) (by simp) rfl (rise2 h2 h3) (rise2 h5 h6)
    have ev : apartV w [(a : Int), (b : Int), (c : Int)] [(a' : Int), (b' : Int), (c' : Int)] = wd3 w a b c a' b' c' := by
      rw [apartV_ok h]
      exact apart_three hw h3 h2 h1 h6 h5 h4
    refine ⟨by rw [m1, m2]; exact e, ?_, fun h => by omega, fun _ => er, fun _ hlt => ?_, fun _ hle => ?_⟩
    · rw [m1, m2, apartV_ok e, ev]
      show G (-1) 3 _ = _
      rw [apart_three hw (by omega) (by omega) (by omega) (by omega) (by omega) (by omega), k.2.2.1]
    · rw [ev]
      exact k.2.2.2.2 (by have : (a' : Int) < a := hlt; omega)
    · have hle : (a : Int) ≤ a' := hle
      obtain ⟨w1, w2⟩ := ways_at (a := a) (a' := a') hw (by omega) (by omega)
      have w3 := way_ok hw (show a < 7 by omega) (show a' < 7 by omega)
      refine ⟨w1, ?_, by show 0 ≤ waysV w ((a' : Int) - a); rw [w2]; exact w3.2.1, by show waysV w ((a' : Int) - a) ≤ 210; rw [w2]; exact w3.2.2.1⟩
      show apartV w [(a : Int), (b : Int), (c : Int)] [(a' : Int), (b' : Int), (c' : Int)] ≤ apartV w [(b : Int), (c : Int)] [(b' : Int), (c' : Int)] * waysV w ((a' : Int) - a)
      rw [ev, w2, apartV_ok er]
      show _ ≤ G (-1) 2 _ * _
      rw [apart_two hw h3 h2 h6 h5]
      exact k.2.2.2.1 (by omega)
/-- two slices of integers that grow side by side -/
structure Two2 (w : World) (B : Nat) (va : Value) (as₁ : List Int) (vb : Value) (bs₁ : List Int) : Prop where
  own1 : OwnInts w B va as₁
  own2 : OwnInts w B vb bs₁
  ne : ∀ k, va.ownBlock = some k → vb.ownBlock ≠ some k
theorem Two2.nil (w : World) (B : Nat) : Two2 w B (.slice none 0 0) [] (.slice none 0 0) [] := ⟨OwnInts.nil w B, OwnInts.nil w B, fun k hk => by cases hk⟩
theorem Two2.symm {w : World} {B : Nat} {va vb : Value} {as₁ bs₁ : List Int} (h : Two2 w B va as₁ vb bs₁) : Two2 w B vb bs₁ va as₁ := ⟨h.own2, h.own1, fun k hk he => h.ne k he hk⟩
theorem Two2.call {w w' : World} {B : Nat} {va vb : Value} {as₁ bs₁ : List Int} (h : Two2 w B va as₁ vb bs₁) (hb : Below w.heap.size w w') : Two2 w' B va as₁ vb bs₁ := ⟨h.own1.call hb, h.own2.call hb, h.ne⟩
theorem Two2.grow {w w' : World} {B : Nat} {va vb v' : Value} {as₁ bs₁ as₂ : List Int} (h : Two2 w B va as₁ vb bs₁) (ho : OwnInts w' B v' as₂) (hg : w.grownBy w' va.ownBlock) (hk : ∀ k, v'.ownBlock = some k → va.ownBlock = some k ∨ w.heap.size ≤ k) : Two2 w' B v' as₂ vb bs₁ := by
  refine ⟨ho, h.own2.kept hg ?_, fun k he hj => ?_⟩
  · cases hj : vb.ownBlock with
    | none => exact Or.inl rfl
    | some q => exact Or.inr fun he => h.ne q he.symm hj
  · rcases hk k he with h1 | h1
    · exact h.ne k h1 hj
    · have := (World.ownsRow.lt h.own2 k hj).2
      omega
end Go.Proofs.YtbafpiepadhmdaaDoor
