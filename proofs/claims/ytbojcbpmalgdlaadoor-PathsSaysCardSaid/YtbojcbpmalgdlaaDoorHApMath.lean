/- Plain law: families of paths, column by column, are a determinant of path counts (Lindstrom; Gessel and Viennot), to three paths. No program in sight. -/
import Derived.Test.YtbojcbpmalgdlaaDoorPathLaw
namespace Go.Proofs.YtbojcbpmalgdlaaDoor
open Go.RowKit
set_option linter.unusedVariables false
set_option linter.unusedSimpArgs false

/-- the sum over h from lo on, h being over -/
def upS (lo : Int) (F : Int → Int) (h : Int) : Int := sumTo (fun d => F (lo + d)) (h - lo).toNat
theorem upS_same (lo : Int) (F : Int → Int) {h : Int} (hh : h ≤ lo) : upS lo F h = 0 := by
  unfold upS
  rw [show (h - lo).toNat = 0 by omega, sumTo]
theorem upS_succ (lo : Int) (F : Int → Int) {h : Int} (hh : lo ≤ h) : upS lo F (h + 1) = upS lo F h + F h := by
  unfold upS
  rw [show (h + 1 - lo).toNat = (h - lo).toNat + 1 by omega, sumTo]
  congr 2
  omega
/-- path counts as they are used here -/
def pw1 (w : Nat) (a t : Int) : Int := waysZ w (t - a)
theorem pw_step (w : Nat) (a t : Int) : pw1 (w + 1) a t = pw1 w a t + pw1 (w + 1) (a + 1) t := by
  unfold pw1 waysZ
  by_cases h : t - a < 0
  · rw [if_pos h, if_pos h, if_pos (by omega)]; rfl
  · rw [if_neg h, if_neg h]
    by_cases h2 : t - (a + 1) < 0
    · rw [if_pos h2, show (t - a).toNat = 0 by omega, waysT_zero, waysT_zero]; rfl
    · rw [if_neg h2, show (t - a).toNat = (t - (a + 1)).toNat + 1 by omega]
      exact waysT_succ _ _
theorem pw_high (w : Nat) {a t : Int} (h : t < a) : pw1 w a t = 0 := by
  unfold pw1 waysZ
  rw [if_pos (by omega)]
theorem up_pw (w : Nat) (lo t : Int) : ∀ (n : Nat), upS lo (fun h => pw1 w h t) (lo + n) = pw1 (w + 1) lo t - pw1 (w + 1) (lo + n) t := by
  intro n
  induction n with
  | zero => rw [upS_same lo _ (by omega)]; simp
  | succ n ih =>
    rw [show lo + ((n + 1 : Nat) : Int) = lo + n + 1 by omega, upS_succ lo _ (by omega), ih]
    have := pw_step w (lo + n) t
    omega
theorem up_pw' (w : Nat) {lo hi : Int} (t : Int) (h : lo ≤ hi) : upS lo (fun h => pw1 w h t) hi = pw1 (w + 1) lo t - pw1 (w + 1) hi t := by
  have := up_pw w lo t (hi - lo).toNat
  rwa [show lo + ((hi - lo).toNat : Int) = hi by omega] at this

theorem up_lin (lo : Int) (F G : Int → Int) (x y : Int) (hi : Int) : upS lo (fun h => x * F h + y * G h) hi = x * upS lo F hi + y * upS lo G hi := by
  unfold upS
  generalize (hi - lo).toNat = n
  induction n with
  | zero => simp [sumTo]
  | succ n ih => rw [sumTo, sumTo, sumTo, ih]; grind
theorem up_lin3 (lo : Int) (F G H : Int → Int) (x y z : Int) (hi : Int) : upS lo (fun h => x * F h + y * G h + z * H h) hi = x * upS lo F hi + y * upS lo G hi + z * upS lo H hi := by
  unfold upS
  generalize (hi - lo).toNat = n
  induction n with
  | zero => simp [sumTo]
  | succ n ih => rw [sumTo, sumTo, sumTo, sumTo, ih]; grind
theorem up_congr {lo hi : Int} {F G : Int → Int} (h : ∀ x, lo ≤ x → x < hi → F x = G x) : upS lo F hi = upS lo G hi := by
  unfold upS
  exact sumTo_congr fun d hd => h _ (by omega) (by omega)
theorem up_two (lo lo' hi hi' : Int) (p q r s : Int → Int) : upS lo (fun h => upS lo' (fun k => p h * q k - r h * s k) hi') hi = upS lo p hi * upS lo' q hi' - upS lo r hi * upS lo' s hi' := by
  have e : (fun h => upS lo' (fun k => p h * q k - r h * s k) hi') = fun h => upS lo' q hi' * p h + (-upS lo' s hi') * r h := by
    funext h
    have : (fun k => p h * q k - r h * s k) = fun k => p h * q k + (-(r h)) * s k := by funext k; grind
    rw [this, up_lin]
    grind
  rw [e, up_lin]
  grind

/-- all ways to go on within one column -/
def apIn (nx : List Int → Int) (z : Bool) (to_ come : List Int) : Nat → List Int → Int
  | 0, leave => nx leave
  | k + 1, leave =>
    if z = true then
      if to_.getD leave.length 0 < come.getD leave.length 0 ∨ (if leave.length + 1 < come.length then come.getD (leave.length + 1) 0 - 1 else 6) < to_.getD leave.length 0 then 0
      else upS (to_.getD leave.length 0) (fun h => apIn nx z to_ come k (leave ++ [h])) (to_.getD leave.length 0 + 1)
    else upS (come.getD leave.length 0) (fun h => apIn nx z to_ come k (leave ++ [h])) ((if leave.length + 1 < come.length then come.getD (leave.length + 1) 0 - 1 else 6) + 1)
def apK (to_ : List Int) : Nat → List Int → Nat → List Int → Int
  | 0, come => apIn (fun _ => 1) true to_ come
  | w + 1, come => apIn (fun l => apK to_ w l l.length []) false to_ come
theorem up_once (t : Int) (F : Int → Int) : upS t F (t + 1) = F t := by rw [upS_succ t F (by omega), upS_same t F (by omega)]; omega

theorem ap_one {t : Int} (ht : t ≤ 6) (w : Nat) : ∀ a : Int, a ≤ 6 → apK [t] w [a] 1 [] = pw1 w a t := by
  induction w with
  | zero =>
    intro a ha
    rw [apK, apIn]
    simp only [List.length_nil, List.length_singleton, if_pos, List.getD_cons_zero, up_once, apIn]
    unfold pw1 waysZ
    by_cases h : t < a
    · rw [if_pos (Or.inl h), if_pos (by omega)]
    · rw [if_neg (by simp; omega), if_neg (by omega)]
      have : ∀ n, waysT 1 n = 1 := by
        intro n
        induction n with
        | zero => rfl
        | succ n ih => rw [waysT_succ, ih]; rfl
      rw [this]
  | succ w ih =>
    intro a ha
    rw [apK, apIn]
    simp only [List.length_nil, List.length_singleton, List.getD_cons_zero, apIn, List.nil_append]
    show upS a (fun h => apK [t] w [h] 1 []) 7 = _
    rw [up_congr (G := fun h => pw1 w h t) (fun x _ hx => ih x (by omega)), up_pw' w t (by omega), pw_high _ (show t < 7 by omega)]
    omega
def pd2 (w : Nat) (a b t u : Int) : Int := pw1 w a t * pw1 w b u - pw1 w a u * pw1 w b t
theorem pw_0 (a t : Int) : pw1 0 a t = if t < a then 0 else 1 := by
  unfold pw1 waysZ
  have : ∀ n, waysT 1 n = 1 := by
    intro n
    induction n with
    | zero => rfl
    | succ n ih => rw [waysT_succ, ih]; rfl
  by_cases h : t < a
  · rw [if_pos (by omega), if_pos h]
  · rw [if_neg (by omega), if_neg h, this]
theorem ap_two {t u : Int} (htu : t < u) (hu : u ≤ 6) (w : Nat) : ∀ a b : Int, a < b → b ≤ 6 → apK [t, u] w [a, b] 2 [] = pd2 w a b t u := by
  induction w with
  | zero =>
    intro a b hab hb
    unfold pd2
    simp [apK, apIn, up_once, pw_0]
    repeat' split
    all_goals first | rfl | omega
  | succ w ih =>
    intro a b hab hb
    have e : apK [t, u] (w + 1) [a, b] 2 [] = upS a (fun h => upS b (fun k => apK [t, u] w [h, k] 2 []) 7) b := by
      simp [apK, apIn]
    rw [e, up_congr (G := fun h => upS b (fun k => pw1 w h t * pw1 w k u - pw1 w h u * pw1 w k t) 7) (fun x _ hx => up_congr fun y hy1 hy2 => ih x y (by omega) (by omega)), up_two, up_pw' w t (by omega), up_pw' w u (by omega), up_pw' w u (by omega), up_pw' w t (by omega), pw_high _ (show t < 7 by omega), pw_high _ (show u < 7 by omega)]
    unfold pd2
    grind
def pd3 (w : Nat) (a b c t u v : Int) : Int := pw1 w a t * pd2 w b c u v - pw1 w a u * pd2 w b c t v + pw1 w a v * pd2 w b c t u
theorem up_three (lo lo' lo2 hi hi' hi2 : Int) (w : Nat) (t u v : Int) :
    upS lo (fun h => upS lo' (fun k => upS lo2 (fun l => pd3 w h k l t u v) hi2) hi') hi =
      upS lo (fun h => pw1 w h t) hi * (upS lo' (fun h => pw1 w h u) hi' * upS lo2 (fun h => pw1 w h v) hi2 - upS lo' (fun h => pw1 w h v) hi' * upS lo2 (fun h => pw1 w h u) hi2)
      - upS lo (fun h => pw1 w h u) hi * (upS lo' (fun h => pw1 w h t) hi' * upS lo2 (fun h => pw1 w h v) hi2 - upS lo' (fun h => pw1 w h v) hi' * upS lo2 (fun h => pw1 w h t) hi2)
      + upS lo (fun h => pw1 w h v) hi * (upS lo' (fun h => pw1 w h t) hi' * upS lo2 (fun h => pw1 w h u) hi2 - upS lo' (fun h => pw1 w h u) hi' * upS lo2 (fun h => pw1 w h t) hi2) := by
  have e : (fun h => upS lo' (fun k => upS lo2 (fun l => pd3 w h k l t u v) hi2) hi') = fun h =>
      (upS lo' (fun h => pw1 w h u) hi' * upS lo2 (fun h => pw1 w h v) hi2 - upS lo' (fun h => pw1 w h v) hi' * upS lo2 (fun h => pw1 w h u) hi2) * pw1 w h t
      + (-(upS lo' (fun h => pw1 w h t) hi' * upS lo2 (fun h => pw1 w h v) hi2 - upS lo' (fun h => pw1 w h v) hi' * upS lo2 (fun h => pw1 w h t) hi2)) * pw1 w h u
      + (upS lo' (fun h => pw1 w h t) hi' * upS lo2 (fun h => pw1 w h u) hi2 - upS lo' (fun h => pw1 w h u) hi' * upS lo2 (fun h => pw1 w h t) hi2) * pw1 w h v := by
    funext h
    have e1 : (fun k => upS lo2 (fun l => pd3 w h k l t u v) hi2) = fun k => (pw1 w h t * upS lo2 (fun h => pw1 w h v) hi2 - pw1 w h v * upS lo2 (fun h => pw1 w h t) hi2) * pw1 w k u + (pw1 w h u * -upS lo2 (fun h => pw1 w h v) hi2 + pw1 w h v * upS lo2 (fun h => pw1 w h u) hi2) * pw1 w k t + (-(pw1 w h t * upS lo2 (fun h => pw1 w h u) hi2) + pw1 w h u * upS lo2 (fun h => pw1 w h t) hi2) * pw1 w k v := by
      funext k
      have e2 : (fun l => pd3 w h k l t u v) = fun l => (pw1 w h t * pw1 w k u - pw1 w h u * pw1 w k t) * pw1 w l v + (-(pw1 w h t * pw1 w k v) + pw1 w h v * pw1 w k t) * pw1 w l u + (pw1 w h u * pw1 w k v - pw1 w h v * pw1 w k u) * pw1 w l t := by
        funext l
        unfold pd3 pd2
        grind
      rw [e2, up_lin3]
      grind
    rw [e1, up_lin3]
    grind
  rw [e, up_lin3]
  grind
def b01 (a t : Nat) : Int := if t < a then 0 else 1
theorem ap_three {t u v : Int} (htu : t < u) (huv : u < v) (hv : v ≤ 6) (w : Nat) : ∀ a b c : Int, a < b → b < c → c ≤ 6 → apK [t, u, v] w [a, b, c] 3 [] = pd3 w a b c t u v := by
  induction w with
  | zero =>
    intro a b c hab hbc hc
    unfold pd3 pd2
    simp [apK, apIn, up_once, pw_0]
    by_cases h1 : t < a <;> by_cases h2 : u < b <;> by_cases h3 : v < c <;> by_cases h4 : b - 1 < t <;> by_cases h5 : c - 1 < u <;> by_cases h6 : t < b <;> by_cases h7 : t < c <;> by_cases h8 : u < c <;> by_cases h9 : u < a <;> by_cases h10 : v < b <;> by_cases h11 : v < a <;> first | omega | simp [h1, h2, h3, h4, h5, h6, h7, h8, h9, h10, h11] <;> omega
  | succ w ih =>
    intro a b c hab hbc hc
    have e : apK [t, u, v] (w + 1) [a, b, c] 3 [] = upS a (fun h => upS b (fun k => upS c (fun l => apK [t, u, v] w [h, k, l] 3 []) 7) c) b := by
      simp [apK, apIn]
    rw [e, up_congr (G := fun h => upS b (fun k => upS c (fun l => pd3 w h k l t u v) 7) c) (fun x _ hx => up_congr fun y hy1 hy2 => up_congr fun z hz1 hz2 => ih x y z (by omega) (by omega) (by omega)), up_three]
    simp only [up_pw' w t (show a ≤ b by omega), up_pw' w u (show a ≤ b by omega), up_pw' w v (show a ≤ b by omega), up_pw' w t (show b ≤ c by omega), up_pw' w u (show b ≤ c by omega), up_pw' w v (show b ≤ c by omega), up_pw' w t (show c ≤ 7 by omega), up_pw' w u (show c ≤ 7 by omega), up_pw' w v (show c ≤ 7 by omega), pw_high _ (show t < 7 by omega), pw_high _ (show u < 7 by omega), pw_high _ (show v < 7 by omega)]
    unfold pd3 pd2
    grind
/-- the reference's ways -/
def hwU : Nat → Nat → Int
  | 0, _ => 1
  | _ + 1, 0 => 1
  | r + 1, u + 1 => hwU r (u + 1) + hwU (r + 1) u
theorem hw_ways (r : Nat) : ∀ u, hwU r u = waysT (r + 1) u := by
  induction r with
  | zero =>
    intro u
    have : ∀ n, waysT 1 n = 1 := by
      intro n
      induction n with
      | zero => rfl
      | succ n ih => rw [waysT_succ, ih]; rfl
    rw [this]
    cases u <;> rw [hwU]
  | succ r ih =>
    intro u
    induction u with
    | zero => rw [waysT_zero, hwU]
    | succ u ih2 => rw [hwU, ih, ih2, waysT_succ (r + 1) u]
end Go.Proofs.YtbojcbpmalgdlaaDoor
