/- Contract of lattice.Short. -/
import Derived.Test.YtkfkfpfcghobfaaDoorLatC
import Derived.Test.YtkfkfpfcghobfaaDoorLatMath
import Derived.Test.YtkfkfpfcghobfaaDoorMod
import Derived.OneCell
import Derived.Deep.Heap
import Derived.Deep.RegionHeld3
import Derived.Deep.DeepFit
import Derived.Deep.LoopGhost
import Derived.BigQuiet
namespace Go.Proofs.YtkfkfpfcghobfaaDoor
open Go.RowKit LatMath
set_option linter.unusedVariables false
set_option linter.unusedSimpArgs false

theorem dot_any (a b c d : Int) (w : World) (ha : Sm a) (hb : Sm b) (hc : Sm c) (hd : Sm d) :
    Calls Tryd.prog 19 #[vec a b, vec c d] w fun e w' => e = .returned (.int .i64 (a * c + b * d)) ∧ Below w.heap.size w w' := by
  obtain ⟨h1, h2⟩ := sm_mul ha hc
  obtain ⟨h3, h4⟩ := sm_mul hb hd
  go_enter Tryd.func19, Tryd.ntmps19
  go_wp2
  go_ret
  exact ⟨rfl, ((Below.refl _ _).alloc (Nat.le_refl _) _).alloc (by simp) _⟩

def near (a b : Int) : Int := (2 * a + b) / (2 * b)
theorem near_bd (a b : Int) (h1 : -8000000 ≤ a) (h2 : a ≤ 8000000) (h3 : 1 ≤ b) (h4 : b ≤ 8000000) : 2 * b * near a b = 2 * a + b - (2 * a + b) % (2 * b) ∧ -9000000 ≤ near a b ∧ near a b ≤ 9000000 := by
  unfold near
  have h := Int.mul_ediv_add_emod (2 * a + b) (2 * b)
  refine ⟨by omega, ?_, ?_⟩
  · rw [Int.le_ediv_iff_mul_le (by omega)]; omega
  · have : (2 * a + b) / (2 * b) < 9000001 := by rw [Int.ediv_lt_iff_lt_mul (by omega)]; omega
    omega

theorem nearest_any (a b : Int) (w : World) (h1 : -8000000 ≤ a) (h2 : a ≤ 8000000) (h3 : 1 ≤ b) (h4 : b ≤ 8000000) :
    Calls Tryd.prog 20 #[.int .i64 a, .int .i64 b] w fun e w' => e = .returned (.int .i64 (near a b)) ∧ w = w' := by
  have hm0 := Int.emod_nonneg (2 * a + b) (show 2 * b ≠ 0 by omega)
  have hm1 := Int.emod_lt_of_pos (2 * a + b) (show 0 < 2 * b by omega)
  have HE : Hid (((2 * a + b) - (2 * a + b) % (2 * b)).tdiv (2 * b) = near a b) := by
    have hb := (near_bd a b h1 h2 h3 h4).1
    show ((2 * a + b) - (2 * a + b) % (2 * b)).tdiv (2 * b) = near a b
    rw [← hb]
    exact Int.mul_tdiv_cancel_left _ (by omega)
  go_enter Tryd.func20, Tryd.ntmps20
  go_wp2_with (go_at_call 26; refine (Mod_any _ _ _ (by omega) (by omega) (by omega) (by omega)).mono ?_; rintro e w' ⟨rfl, rfl⟩)
  go_ret
  exact ⟨ret_int HE.out, rfl⟩

theorem Short_bad (a b c d e : Int) (w : World) (hck : ∀ w, Calls Tryd.prog 6 #[vec a b, vec c d] w fun e' w' => e' = .returned (.iface 43 (.int .i64 e)) ∧ Below w.heap.size w w') :
    Calls Tryd.prog 9 #[vec a b, vec c d] w fun e' w' => e' = .returned (.tuple #[.int .i64 0, .int .i64 0, .iface 43 (.int .i64 e)]) ∧ Below w.heap.size w w' := by
  go_enter Tryd.func9, Tryd.ntmps9
  go_wp2_with fail
  go_at_call 6
  refine (hck _).mono ?_
  rintro e w1 ⟨rfl, hb⟩
  have hB := hb.mono (show w.heap.size + 2 ≤ _ from by simp)
  clear hb
  go_wp2_with fail
  go_ret3
  exact ⟨rfl, (((Below.refl _ _).alloc (Nat.le_refl _) _).alloc (by simp) _).trans (hB.mono (by omega))⟩

theorem sm_of_sq {x y : Int} (h : x * x + y * y ≤ 2000000) : Sm x ∧ Sm y := by
  have h1 : 0 ≤ x * x := sq_nn x
  have h2 : 0 ≤ y * y := sq_nn y
  have key : ∀ z : Int, z * z ≤ 2000000 → Sm z := by
    intro z hz
    unfold Sm
    constructor
    · rcases Int.lt_or_le z (-2000) with h | h
      · have := Int.mul_le_mul_of_nonneg_left (show 2000 ≤ -z by omega) (show 0 ≤ -z by omega)
        simp only [Int.neg_mul_neg] at this
        omega
      · exact h
    · rcases Int.lt_or_le 2000 z with h | h
      · have := Int.mul_le_mul_of_nonneg_left (show 2000 ≤ z by omega) (show 0 ≤ z by omega)
        omega
      · exact h
  exact ⟨key x (by omega), key y (by omega)⟩

/-- block B is a variable of type Vec -/
def VecAt (w : World) (B : Nat) (x y : Int) : Prop := w.heap[B]? = some (.cells #[.int .i64 x, .int .i64 y] 23 (0, 0))

theorem VecAt.cell0 {w : World} {B : Nat} {x y : Int} (h : VecAt w B x y) : w.cell? ⟨B, 0, none⟩ = some (.int .i64 x) := by unfold VecAt at h; simp [World.cell?, h]
theorem VecAt.cell1 {w : World} {B : Nat} {x y : Int} (h : VecAt w B x y) : w.cell? ⟨B, 1, none⟩ = some (.int .i64 y) := by unfold VecAt at h; simp [World.cell?, h]
theorem VecAt.free {w : World} {B : Nat} {x y : Int} (h : VecAt w B x y) (o : Nat) : w.frozen? ⟨B, o, none⟩ = false := by unfold VecAt at h; simp [World.frozen?, h]
theorem VecAt.below {N : Nat} {w w' : World} {B : Nat} {x y : Int} (h : VecAt w B x y) (hb : Below N w w') (hB : B < N) : VecAt w' B x y := by
  unfold VecAt at *; rw [hb.block B hB]; exact h
theorem VecAt.other {w : World} {B : Nat} {x y : Int} (h : VecAt w B x y) (a : Addr) (v : Value) (hB : B ≠ a.block) : VecAt (w.setCell a v) B x y := by
  unfold VecAt at *; rw [Below.heap_setCell _ _ _ _ hB]; exact h
theorem blk_set {w : World} {B : Nat} {c : Array Value} {T : TypeId} {f : Nat × Nat} (h : w.heap[B]? = some (.cells c T f)) (o : Nat) (v : Value) :
    (w.setCell ⟨B, o, none⟩ v).heap[B]? = some (.cells (c.setIfInBounds o v) T f) := by
  have hlt := lt_of_block h
  have h' : w.heap[B] = .cells c T f := by simpa [Array.getElem?_eq_getElem hlt] using h
  show (w.heap.modify B _)[B]? = _
  rw [Array.getElem?_eq_getElem (by simpa using hlt), Array.getElem_modify_self, h']
  rfl
theorem VecAt.set {w : World} {B : Nat} {x y : Int} (h : VecAt w B x y) (p q : Int) : VecAt ((w.setCell ⟨B, 0, none⟩ (.int .i64 p)).setCell ⟨B, 1, none⟩ (.int .i64 q)) B p q :=
  blk_set (blk_set h 0 (.int .i64 p)) 1 (.int .i64 q)
theorem VecAt.new (w : World) (x y : Int) : VecAt (w.alloc (.cells #[.int .i64 x, .int .i64 y] 23)) w.heap.size x y := by
  show (w.heap.push _)[w.heap.size]? = _
  simp
theorem VecAt.lt {w : World} {B : Nat} {x y : Int} (h : VecAt w B x y) : B < w.heap.size := lt_of_block h

/-- the state of the loop of Short -/
def ShortSt (a b c d : Int) (N : Nat) (w wr : World) (k : Nat) (x y z t : Int) : Prop :=
  Uni a b c d x y z t ∧ x * x + y * y ≤ 2000000 ∧ z * z + t * t ≤ 2000000 ∧ x * x + y * y + (z * z + t * t) ≤ k ∧ 
  VecAt wr N x y ∧ VecAt wr (N + 1) z t ∧ N + 2 ≤ wr.heap.size ∧ Below N w wr

theorem uu_pos {a b c d x y z t : Int} (h : Uni a b c d x y z t) (h0 : a * d - b * c ≠ 0) : 1 ≤ x * x + y * y := by
  have hc := h.cross
  have : x ≠ 0 ∨ y ≠ 0 := by
    by_cases hx : x = 0
    · by_cases hy : y = 0
      · subst hx hy; simp at hc; omega
      · exact Or.inr hy
    · exact Or.inl hx
  have s1 := sq_nn x
  have s2 := sq_nn y
  rcases this with h | h
  · have := sq_pos h; omega
  · have := sq_pos h; omega

theorem dot_bd {x y z t : Int} (sx : Sm x) (sy : Sm y) (sz : Sm z) (st : Sm t) : -8000000 ≤ x * z + y * t ∧ x * z + y * t ≤ 8000000 := by
  have := sm_mul sx sz
  have := sm_mul sy st
  omega

theorem Short_ok (a b c d : Int) (w : World) (hab : a * a + b * b ≤ 2000000) (hcd : c * c + d * d ≤ 2000000) (h0 : a * d - b * c ≠ 0) (hck : ∀ w, Calls Tryd.prog 6 #[vec a b, vec c d] w fun e' w' => e' = .returned .nilIface ∧ Below w.heap.size w w') :
    Calls Tryd.prog 9 #[vec a b, vec c d] w fun e' w' => (∃ A C : Int, e' = .returned (.tuple #[.int .i64 A, .int .i64 C, .nilIface]) ∧ RedOf a b c d A C) ∧ Below w.heap.size w w' := by
  have H0 := Lib.hid h0
  clear h0
  go_enter Tryd.func9, Tryd.ntmps9
  go_wp2_with fail
  go_at_call 6
  refine (hck _).mono ?_
  rintro e w1 ⟨rfl, hb⟩
  have hB := hb.mono (show w.heap.size + 2 ≤ _ from by simp)
  clear hb
  go_wp2_with fail
  go_loopg [] 4000000 (fun k wr => ∃ x y z t : Int, ShortSt a b c d w.heap.size w wr k x y z t)
  case atStart =>
    refine ⟨a, b, c, d, Uni.refl _ _ _ _, hab, hcd, by omega, ?_, ?_, ?_, ?_⟩
    · exact VecAt.below (by have := VecAt.new w a b; exact this.below ((Below.refl _ _).alloc (Nat.le_refl _) _) (by simp)) hB (by omega)
    · have := (VecAt.new (w.alloc (Obj.cells #[Value.int IntKind.i64 a, Value.int IntKind.i64 b] 23)) c d)
      rw [show (w.alloc (Obj.cells #[Value.int IntKind.i64 a, Value.int IntKind.i64 b] 23)).heap.size = w.heap.size + 1 from by simp] at this
      exact this.below hB (by omega)
    · have := hB.size; simp at this; omega
    · exact (((Below.refl _ _).alloc (Nat.le_refl _) _).alloc (by simp) _).trans (hB.mono (by omega))
  case round =>
    obtain ⟨x, y, z, t, hU, hu, hv, hk, vu, vv, hz, hBr⟩ := hrel
    obtain ⟨sx, sy⟩ := sm_of_sq hu
    obtain ⟨sz, st⟩ := sm_of_sq hv
    clear hB
    have c0 := vu.cell0
    have c1 := vu.cell1
    have c2 := vv.cell0
    have c3 := vv.cell1
    have f0 := vu.free
    have f1 := vv.free
    have hst : ∃ p q r s : Int, (p = x ∧ q = y ∧ r = z ∧ s = t ∧ ¬ z * z + t * t < x * x + y * y) ∨ (p = z ∧ q = t ∧ r = x ∧ s = y ∧ z * z + t * t < x * x + y * y) := by
      by_cases hs : z * z + t * t < x * x + y * y
      · exact ⟨_, _, _, _, Or.inr ⟨rfl, rfl, rfl, rfl, hs⟩⟩
      · exact ⟨_, _, _, _, Or.inl ⟨rfl, rfl, rfl, rfl, hs⟩⟩
    obtain ⟨p, q, r, s, hpqrs⟩ := hst
    have hle : p * p + q * q ≤ r * r + s * s := by rcases hpqrs with ⟨rfl, rfl, rfl, rfl, h⟩ | ⟨rfl, rfl, rfl, rfl, h⟩ <;> omega
    have hU3 : Uni a b c d p q r s := by rcases hpqrs with ⟨rfl, rfl, rfl, rfl, h⟩ | ⟨rfl, rfl, rfl, rfl, h⟩; exact hU; exact hU.swap
    have hu3 : p * p + q * q ≤ 2000000 := by rcases hpqrs with ⟨rfl, rfl, rfl, rfl, h⟩ | ⟨rfl, rfl, rfl, rfl, h⟩ <;> assumption
    have hv3 : r * r + s * s ≤ 2000000 := by rcases hpqrs with ⟨rfl, rfl, rfl, rfl, h⟩ | ⟨rfl, rfl, rfl, rfl, h⟩ <;> assumption
    have hk3 : p * p + q * q + (r * r + s * s) ≤ gk := by rcases hpqrs with ⟨rfl, rfl, rfl, rfl, h⟩ | ⟨rfl, rfl, rfl, rfl, h⟩ <;> omega
    obtain ⟨sp, sq⟩ := sm_of_sq hu3
    obtain ⟨sr, ss⟩ := sm_of_sq hv3
    have hp1 := uu_pos hU3 H0.out
    obtain ⟨hb1, hb2⟩ := dot_bd sp sq sr ss
    have HLE := Lib.hid hle
    have HNX := Lib.hid (next_sq p q r s (near (p * r + q * s) (p * p + q * q)))
    obtain ⟨nk0, nk1, nk2⟩ := near_bd (p * r + q * s) (p * p + q * q) hb1 hb2 hp1 (by omega)
    have N0 := near_facts (p * p + q * q) (p * r + q * s) hp1
    rw [show (2 * (p * r + q * s) + (p * p + q * q)) / (2 * (p * p + q * q)) = near (p * r + q * s) (p * p + q * q) from rfl] at N0
    obtain ⟨N1', N2'⟩ := N0
    have N1 := Lib.hid N1'
    have N2 := Lib.hid N2'
    clear N1' N2'
    have HK := Lib.hid hk3
    clear hle nk0 hk3
    have hnx : ∃ k : Int, k = near (p * r + q * s) (p * p + q * q) := ⟨_, rfl⟩
    obtain ⟨k, hkk⟩ := hnx
    rw [← hkk] at N1 N2 HNX nk1 nk2
    have HKK := Lib.hid hkk
    clear hkk
    have hns : (r - k * p) * (r - k * p) + (s - k * q) * (s - k * q) ≤ r * r + s * s := by rw [HNX.out]; have := N1.out; omega
    obtain ⟨sn, sm⟩ := sm_of_sq (Int.le_trans hns hv3)
    obtain ⟨g1, g2⟩ := mul_bd k p 9000000 2000 nk1 nk2 sp.1 sp.2
    obtain ⟨g3, g4⟩ := mul_bd k q 9000000 2000 nk1 nk2 sq.1 sq.2
    obtain ⟨sr1, sr2⟩ := sr
    obtain ⟨ss1, ss2⟩ := ss
    have sr : Sm r := ⟨sr1, sr2⟩
    have ss : Sm s := ⟨ss1, ss2⟩
    clear hU hk hu hv
    by_cases hs : z * z + t * t < x * x + y * y
    · go_wp2_with fail
      refine wp_region_quiet (C := Cls (w.heap.size + 2) wr) (by kernel_rfl) (by kernel_rfl) Cls.start ?_
      repeat
        (refine wpQuiet_step (fun K hK => ?_)
         go_simp
         first
           | (refine hK _ ?_; clear hK K)
           | (apply Exists.intro
              refine ⟨fun w' hC => ?_, hK _ ?_⟩
              · (obtain ⟨hr, hr2⟩ := hC.rules
                 first
                   | (go_at_call 19; exact Cls.call hC (by omega) (dot_any _ _ _ _ _ (by assumption) (by assumption) (by assumption) (by assumption)))
                   | (go_simp; done)
                   | (go_simp; rfl))
              clear hK K))
      refine wpQuiet_nil ?_
      intro w2 hw2
      obtain ⟨hc2, hf2⟩ := hw2.rules
      go_wp2_with fail
      generalize hW : (((w2.setCell ⟨w.heap.size, 0, none⟩ (.int .i64 z)).setCell ⟨w.heap.size, 1, none⟩ (.int .i64 t)).setCell ⟨w.heap.size + 1, 0, none⟩ (.int .i64 x)).setCell ⟨w.heap.size + 1, 1, none⟩ (.int .i64 y) = w3
      have vu3 : VecAt w3 w.heap.size z t := by
        rw [← hW]; exact ((((vu.below hw2 (by omega)).set z t)).other _ _ (by simp)).other _ _ (by simp)
      have vv3 : VecAt w3 (w.heap.size + 1) x y := by
        rw [← hW]; exact (((vv.below hw2 (by omega)).other _ _ (by simp)).other _ _ (by simp)).set x y
      have hB3 : Below w.heap.size w w3 := by
        rw [← hW]; exact ((((hBr.trans (hw2.mono (by omega))).setCell (by simp) _).setCell (by simp) _).setCell (by simp) _).setCell (by simp) _
      clear hW hc2 hf2 hw2 vu vv c0 c1 c2 c3 f0 f1 hBr hz
      have hz3 : w.heap.size + 2 ≤ w3.heap.size := vv3.lt
      obtain ⟨rfl, rfl, rfl, rfl⟩ : p = z ∧ q = t ∧ r = x ∧ s = y := by rcases hpqrs with ⟨e1, e2, e3, e4, e5⟩ | ⟨e1, e2, e3, e4, e5⟩; omega; exact ⟨e1, e2, e3, e4⟩
      clear hpqrs hs
      have d0 := vu3.cell0
      have d1 := vu3.cell1
      have d2 := vv3.cell0
      have d3 := vv3.cell1
      have d4 := vv3.free
      refine wp_region_quiet (C := Cls (w.heap.size + 2) w3) (by kernel_rfl) (by kernel_rfl) Cls.start ?_
      repeat
        (refine wpQuiet_step (fun K hK => ?_)
         go_simp
         first
           | (refine hK _ ?_; clear hK K)
           | (apply Exists.intro
              refine ⟨fun w' hC => ?_, hK _ ?_⟩
              · (obtain ⟨hr, hr2⟩ := hC.rules
                 first
                   | (go_at_call 19; exact Cls.call hC (by omega) (dot_any _ _ _ _ _ (by assumption) (by assumption) (by assumption) (by assumption)))
                   | (go_at_call 20; exact Cls.callSame hC (nearest_any _ _ _ (by omega) (by omega) (by omega) (by omega)))
                   | (go_simp; done)
                   | (go_simp; rfl))
              clear hK K))
      refine wpQuiet_nil ?_
      intro w4 hw4
      obtain ⟨hc4, hf4⟩ := hw4.rules
      rw [← HKK.out]
      go_wp2_with fail
      obtain ⟨nb, hnb⟩ : ∃ n, n = w4.heap.size := ⟨_, rfl⟩
      have vn5 := VecAt.new w4 (r - k * p) (s - k * q)
      have vu5 := (vu3.below hw4 (by omega)).below ((Below.refl w4.heap.size w4).alloc (Nat.le_refl _) (Obj.cells #[.int .i64 (r - k * p), .int .i64 (s - k * q)] 23)) (by have := hw4.size; omega)
      have vv5 := (vv3.below hw4 (by omega)).below ((Below.refl w4.heap.size w4).alloc (Nat.le_refl _) (Obj.cells #[.int .i64 (r - k * p), .int .i64 (s - k * q)] 23)) (by have := hw4.size; omega)
      have hB5 := (hB3.trans (hw4.mono (show w.heap.size ≤ w.heap.size + 2 by omega))).alloc (by have := hw4.size; omega) (Obj.cells #[.int .i64 (r - k * p), .int .i64 (s - k * q)] 23)
      clear hc4 hf4 d0 d1 d2 d3 d4 vu3 vv3 hB3
      generalize hW5 : w4.alloc (Obj.cells #[.int .i64 (r - k * p), .int .i64 (s - k * q)] 23) = w5 at *
      rw [← hnb] at vn5 ⊢
      clear hnb hW5 hw4 hz3
      have d0 := vu5.cell0
      have d1 := vu5.cell1
      have d2 := vv5.cell0
      have d3 := vv5.cell1
      have d4 := vv5.free
      have d5 := vn5.cell0
      have d6 := vn5.cell1
      have l0 := vu5.lt
      have l1 := vv5.lt
      have l2 := vn5.lt
      refine wp_region_quiet (C := Cls w5.heap.size w5) (by kernel_rfl) (by kernel_rfl) Cls.start ?_
      repeat
        (refine wpQuiet_step (fun K hK => ?_)
         go_simp
         first
           | (refine hK _ ?_; clear hK K)
           | (apply Exists.intro
              refine ⟨fun w' hC => ?_, hK _ ?_⟩
              · (obtain ⟨hr, hr2⟩ := hC.rules
                 first
                   | (go_at_call 19; exact Cls.call hC (Nat.le_refl _) (dot_any _ _ _ _ _ (by assumption) (by assumption) (by assumption) (by assumption)))
                   | (go_simp; done)
                   | (go_simp; rfl))
              clear hK K))
      refine wpQuiet_nil ?_
      intro w6 hw6
      obtain ⟨hc6, hf6⟩ := hw6.rules
      by_cases hge : r * r + s * s ≤ (r - k * p) * (r - k * p) + (s - k * q) * (s - k * q)
      · go_wp2_with fail
        refine wp_region_quiet (C := Cls w5.heap.size w6) (by kernel_rfl) (by kernel_rfl) Cls.start ?_
        repeat
          (refine wpQuiet_step (fun K hK => ?_)
           go_simp
           first
             | (refine hK _ ?_; clear hK K)
             | (apply Exists.intro
                refine ⟨fun w' hC => ?_, hK _ ?_⟩
                · (obtain ⟨hr, hr2⟩ := hC.rules
                   first
                     | (go_at_call 19; exact Cls.call hC (by have := hw6.size; omega) (dot_any _ _ _ _ _ (by assumption) (by assumption) (by assumption) (by assumption)))
                     | (go_simp; done)
                     | (go_simp; rfl))
                clear hK K))
        refine wpQuiet_nil ?_
        intro w7 hw7
        go_wp2_with fail
        go_ret3
        have hB7 : Below w.heap.size w w7 := (hB5.trans (hw6.mono (by omega))).trans (hw7.mono (by omega))
        exact ⟨⟨_, _, rfl, p, q, r, s, hU3, rfl, rfl, HLE.out, N2.out (by have := HNX.out; omega)⟩, hB7⟩
      · go_wp2_with fail
        go_roundg (gk - 1)
        case measure =>
          have := HK.out
          have := sq_nn r
          have := sq_nn s
          omega
        case rel =>
          refine ⟨p, q, r - k * p, s - k * q, hU3.shear k, hu3, Int.le_trans hns hv3, ?_, ?_, ?_, ?_, ?_⟩
          · have := HK.out
            have := sq_nn r
            have := sq_nn s
            omega
          · exact ((vu5.below hw6 l0).other _ _ (by simp)).other _ _ (by simp)
          · exact (vv5.below hw6 l1).set _ _
          · have h1 := hw6.size
            have h2 : w.heap.size + 1 < w5.heap.size := l1
            show _ ≤ (World.setCell _ _ _).heap.size
            rw [Go.Deep.nblk_setCell, Go.Deep.nblk_setCell]
            omega
          · exact ((hB5.trans (hw6.mono (by omega))).setCell (by simp) _).setCell (by simp) _
    · go_wp2_with fail
      refine wp_region_quiet (C := Cls (w.heap.size + 2) wr) (by kernel_rfl) (by kernel_rfl) Cls.start ?_
      repeat
        (refine wpQuiet_step (fun K hK => ?_)
         go_simp
         first
           | (refine hK _ ?_; clear hK K)
           | (apply Exists.intro
              refine ⟨fun w' hC => ?_, hK _ ?_⟩
              · (obtain ⟨hr, hr2⟩ := hC.rules
                 first
                   | (go_at_call 19; exact Cls.call hC (by omega) (dot_any _ _ _ _ _ (by assumption) (by assumption) (by assumption) (by assumption)))
                   | (go_simp; done)
                   | (go_simp; rfl))
              clear hK K))
      refine wpQuiet_nil ?_
      intro w3 hw3
      have vu3 : VecAt w3 w.heap.size x y := vu.below hw3 (by omega)
      have vv3 : VecAt w3 (w.heap.size + 1) z t := vv.below hw3 (by omega)
      have hB3 : Below w.heap.size w w3 := hBr.trans (hw3.mono (by omega))
      have hz3 : w.heap.size + 2 ≤ w3.heap.size := vv3.lt
      clear hw3 vu vv c0 c1 c2 c3 f0 f1 hBr hz
      obtain ⟨rfl, rfl, rfl, rfl⟩ : p = x ∧ q = y ∧ r = z ∧ s = t := by rcases hpqrs with ⟨e1, e2, e3, e4, e5⟩ | ⟨e1, e2, e3, e4, e5⟩; exact ⟨e1, e2, e3, e4⟩; omega
      clear hpqrs
      go_wp2_with fail
      clear hs
      have d0 := vu3.cell0
      have d1 := vu3.cell1
      have d2 := vv3.cell0
      have d3 := vv3.cell1
      have d4 := vv3.free
      refine wp_region_quiet (C := Cls (w.heap.size + 2) w3) (by kernel_rfl) (by kernel_rfl) Cls.start ?_
      repeat
        (refine wpQuiet_step (fun K hK => ?_)
         go_simp
         first
           | (refine hK _ ?_; clear hK K)
           | (apply Exists.intro
              refine ⟨fun w' hC => ?_, hK _ ?_⟩
              · (obtain ⟨hr, hr2⟩ := hC.rules
                 first
                   | (go_at_call 19; exact Cls.call hC (by omega) (dot_any _ _ _ _ _ (by assumption) (by assumption) (by assumption) (by assumption)))
                   | (go_at_call 20; exact Cls.callSame hC (nearest_any _ _ _ (by omega) (by omega) (by omega) (by omega)))
                   | (go_simp; done)
                   | (go_simp; rfl))
              clear hK K))
      refine wpQuiet_nil ?_
      intro w4 hw4
      obtain ⟨hc4, hf4⟩ := hw4.rules
      rw [← HKK.out]
      go_wp2_with fail
      obtain ⟨nb, hnb⟩ : ∃ n, n = w4.heap.size := ⟨_, rfl⟩
      have vn5 := VecAt.new w4 (r - k * p) (s - k * q)
      have vu5 := (vu3.below hw4 (by omega)).below ((Below.refl w4.heap.size w4).alloc (Nat.le_refl _) (Obj.cells #[.int .i64 (r - k * p), .int .i64 (s - k * q)] 23)) (by have := hw4.size; omega)
      have vv5 := (vv3.below hw4 (by omega)).below ((Below.refl w4.heap.size w4).alloc (Nat.le_refl _) (Obj.cells #[.int .i64 (r - k * p), .int .i64 (s - k * q)] 23)) (by have := hw4.size; omega)
      have hB5 := (hB3.trans (hw4.mono (show w.heap.size ≤ w.heap.size + 2 by omega))).alloc (by have := hw4.size; omega) (Obj.cells #[.int .i64 (r - k * p), .int .i64 (s - k * q)] 23)
      clear hc4 hf4 d0 d1 d2 d3 d4 vu3 vv3 hB3
      generalize hW5 : w4.alloc (Obj.cells #[.int .i64 (r - k * p), .int .i64 (s - k * q)] 23) = w5 at *
      rw [← hnb] at vn5 ⊢
      clear hnb hW5 hw4 hz3
      have d0 := vu5.cell0
      have d1 := vu5.cell1
      have d2 := vv5.cell0
      have d3 := vv5.cell1
      have d4 := vv5.free
      have d5 := vn5.cell0
      have d6 := vn5.cell1
      have l0 := vu5.lt
      have l1 := vv5.lt
      have l2 := vn5.lt
      refine wp_region_quiet (C := Cls w5.heap.size w5) (by kernel_rfl) (by kernel_rfl) Cls.start ?_
      repeat
        (refine wpQuiet_step (fun K hK => ?_)
         go_simp
         first
           | (refine hK _ ?_; clear hK K)
           | (apply Exists.intro
              refine ⟨fun w' hC => ?_, hK _ ?_⟩
              · (obtain ⟨hr, hr2⟩ := hC.rules
                 first
                   | (go_at_call 19; exact Cls.call hC (Nat.le_refl _) (dot_any _ _ _ _ _ (by assumption) (by assumption) (by assumption) (by assumption)))
                   | (go_simp; done)
                   | (go_simp; rfl))
              clear hK K))
      refine wpQuiet_nil ?_
      intro w6 hw6
      obtain ⟨hc6, hf6⟩ := hw6.rules
      by_cases hge : r * r + s * s ≤ (r - k * p) * (r - k * p) + (s - k * q) * (s - k * q)
      · go_wp2_with fail
        refine wp_region_quiet (C := Cls w5.heap.size w6) (by kernel_rfl) (by kernel_rfl) Cls.start ?_
        repeat
          (refine wpQuiet_step (fun K hK => ?_)
           go_simp
           first
             | (refine hK _ ?_; clear hK K)
             | (apply Exists.intro
                refine ⟨fun w' hC => ?_, hK _ ?_⟩
                · (obtain ⟨hr, hr2⟩ := hC.rules
                   first
                     | (go_at_call 19; exact Cls.call hC (by have := hw6.size; omega) (dot_any _ _ _ _ _ (by assumption) (by assumption) (by assumption) (by assumption)))
                     | (go_simp; done)
                     | (go_simp; rfl))
                clear hK K))
        refine wpQuiet_nil ?_
        intro w7 hw7
        go_wp2_with fail
        go_ret3
        have hB7 : Below w.heap.size w w7 := (hB5.trans (hw6.mono (by omega))).trans (hw7.mono (by omega))
        exact ⟨⟨_, _, rfl, p, q, r, s, hU3, rfl, rfl, HLE.out, N2.out (by have := HNX.out; omega)⟩, hB7⟩
      · go_wp2_with fail
        go_roundg (gk - 1)
        case measure =>
          have := HK.out
          have := sq_nn r
          have := sq_nn s
          omega
        case rel =>
          refine ⟨p, q, r - k * p, s - k * q, hU3.shear k, hu3, Int.le_trans hns hv3, ?_, ?_, ?_, ?_, ?_⟩
          · have := HK.out
            have := sq_nn r
            have := sq_nn s
            omega
          · exact ((vu5.below hw6 l0).other _ _ (by simp)).other _ _ (by simp)
          · exact (vv5.below hw6 l1).set _ _
          · have h1 := hw6.size
            have h2 : w.heap.size + 1 < w5.heap.size := l1
            show _ ≤ (World.setCell _ _ _).heap.size
            rw [Go.Deep.nblk_setCell, Go.Deep.nblk_setCell]
            omega
          · exact ((hB5.trans (hw6.mono (by omega))).setCell (by simp) _).setCell (by simp) _

theorem sq_bd {a : Int} (h : -1000 ≤ a ∧ a ≤ 1000) : a * a ≤ 1000000 := (mul_bd a a 1000 1000 h.1 h.2 h.1 h.2).2

/-- Short, of vectors that are right -/
theorem Short_good {a b c d : Int} (h : vecsErr a b c d = 0) (w : World) :
    Calls Tryd.prog 9 #[vec a b, vec c d] w fun e' w' => (∃ A C : Int, e' = .returned (.tuple #[.int .i64 A, .int .i64 C, .nilIface]) ∧ RedOf a b c d A C) ∧ Below w.heap.size w w' := by
  obtain ⟨g1, g2, g3, g4⟩ := good_bd h
  have := sq_bd g1
  have := sq_bd g2
  have := sq_bd g3
  have := sq_bd g4
  exact Short_ok a b c d w (by omega) (by omega) (vecsErr_good h).2.2 (fun w => Check_good h w)

theorem Short_wrong {a b c d : Int} (h : vecsErr a b c d ≠ 0) (w : World) :
    Calls Tryd.prog 9 #[vec a b, vec c d] w fun e' w' => e' = .returned (.tuple #[.int .i64 0, .int .i64 0, .iface 43 (.int .i64 (vecsErr a b c d))]) ∧ Below w.heap.size w w' :=
  Short_bad a b c d _ w (fun w => Check_bad h w)

end Go.Proofs.YtkfkfpfcghobfaaDoor
