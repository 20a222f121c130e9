/- Contract of num.Each: the places of a matrix, row by row. -/
import Derived.RangeFuncNested
import Derived.RangeFuncBound
import Derived.RangeFuncCalls
import Derived.RangeFuncLeaves
import Derived.Shelf.Abstract
import Derived.Shelf.RegionOpen
import Derived.WalkKit
import Derived.OwnWalkIn
import Derived.TacticsInMore
import Derived.LoopNIn
import Derived.LoopIn
import Derived.Test.YthbfeecbaanegaaMem
namespace Go.Proofs.Ythbfeecbaanegaa
open Go.RowKit Go.Shelf
set_option linter.unusedVariables false
set_option linter.unusedSimpArgs false
attribute [local go_sem] Oper.semAt_some

theorem cell_new_l (W : World) (v : Value) (t : TypeId) : (W.alloc (.cells #[v] t)).cell? ⟨W.heap.size, 0, none⟩ = some v ∧ (W.alloc (.cells #[v] t)).frozen? ⟨W.heap.size, 0, none⟩ = false := by
  constructor <;> simp [go_sem]
theorem cell_alloc_l {W : World} {a : Addr} {v : Value} (o : Obj) (h : W.cell? a = some v) : (W.alloc o).cell? a = some v := cell_kept h (World.grownBy_alloc W o none) (fun r e => by cases e)
theorem frozen_alloc_l {W : World} {a : Addr} {v : Value} (o : Obj) (h : W.cell? a = some v) (hf : W.frozen? a = false) : (W.alloc o).frozen? a = false := (frozen_kept h (World.grownBy_alloc W o none) (fun r e => by cases e)).trans hf

/-- row i's places -/
def rowPl (i l : Nat) : List (Nat × Nat) := (List.range l).map fun j => (i, j)
/-- the places of the first n rows -/
def allPl (L : Nat → Nat) (n : Nat) : List (Nat × Nat) := (List.range n).flatMap fun i => rowPl i (L i)
theorem rowPl_zero (i : Nat) : rowPl i 0 = [] := rfl
theorem rowPl_succ (i l : Nat) : rowPl i (l + 1) = rowPl i l ++ [(i, l)] := by simp [rowPl, List.range_succ]
theorem allPl_succ (L : Nat → Nat) (n : Nat) : allPl L (n + 1) = allPl L n ++ rowPl n (L n) := by simp [allPl, List.range_succ]
theorem mem_rowPl {i l : Nat} {p : Nat × Nat} : p ∈ rowPl i l ↔ p.1 = i ∧ p.2 < l := by
  obtain ⟨a, b⟩ := p
  simp only [rowPl, List.mem_map, List.mem_range, Prod.mk.injEq]
  constructor
  · rintro ⟨a', h, rfl, rfl⟩; exact ⟨rfl, h⟩
  · rintro ⟨rfl, h⟩; exact ⟨b, h, rfl, rfl⟩
theorem mem_allPl {L : Nat → Nat} {n : Nat} {p : Nat × Nat} : p ∈ allPl L n ↔ p.1 < n ∧ p.2 < L p.1 := by
  simp only [allPl, List.mem_flatMap, List.mem_range, mem_rowPl]
  constructor
  · rintro ⟨a, h1, h2, h3⟩
    rw [h2]; exact ⟨h1, h3⟩
  · rintro ⟨h1, h2⟩
    exact ⟨p.1, h1, rfl, h2⟩
theorem rowPl_prefix {i j l : Nat} (h : j ≤ l) : rowPl i j <+: rowPl i l := by
  induction l with
  | zero => obtain rfl : j = 0 := by omega
            exact List.prefix_rfl
  | succ l ih =>
    by_cases hj : j = l + 1
    · rw [hj]; exact List.prefix_rfl
    · rw [rowPl_succ]; exact (ih (by omega)).trans (List.prefix_append _ _)
theorem allPl_prefix {L : Nat → Nat} {k n j : Nat} (hk : k < n) (hj : j ≤ L k) : allPl L k ++ rowPl k j <+: allPl L n := by
  induction n with
  | zero => omega
  | succ n ih =>
    rw [allPl_succ]
    by_cases h : k = n
    · subst h
      exact (List.prefix_append_right_inj _).2 (rowPl_prefix hj)
    · exact (ih (by omega)).trans (List.prefix_append _ _)
theorem allPl_lt {L : Nat → Nat} {k n j : Nat} (hk : k < n) (hj : j < L k) : (allPl L k ++ rowPl k j).length < (allPl L n).length := by
  have := (allPl_prefix (L := L) hk (show j + 1 ≤ L k by omega)).length_le
  rw [rowPl_succ] at this
  simp at this ⊢
  omega

/-- a place and what was read there -/
abbrev Tri (n : Nat) (L : Nat → Nat) (Ok : Nat → Nat → Int → Prop) := { t : Nat × Nat × Int // t.1 < n ∧ t.2.1 < L t.1 ∧ Ok t.1 t.2.1 t.2.2 }
def pl {n : Nat} {L : Nat → Nat} {Ok : Nat → Nat → Int → Prop} (t : Tri n L Ok) : Nat × Nat := (t.1.1, t.1.2.1)
def encT {n : Nat} {L : Nat → Nat} {Ok : Nat → Nat → Int → Prop} (t : Tri n L Ok) : Array Value := #[.agg #[.int .i64 (t.1.1 : Int), .int .i64 (t.1.2.1 : Int)], .int .i64 t.1.2.2]

/-- p holds at all places that have come -/
def EachGood {n : Nat} {L : Nat → Nat} {Ok : Nat → Nat → Int → Prop} (p : Nat → Nat → Prop) (pre : List (Tri n L Ok)) : Prop := ∀ t ∈ pre, p (pl t).1 (pl t).2
theorem EachGood.nil {n : Nat} {L : Nat → Nat} {Ok : Nat → Nat → Int → Prop} (p : Nat → Nat → Prop) : EachGood (n := n) (L := L) (Ok := Ok) p [] := fun t ht => by cases ht
theorem EachGood.snoc {n : Nat} {L : Nat → Nat} {Ok : Nat → Nat → Int → Prop} {p : Nat → Nat → Prop} {pre : List (Tri n L Ok)} (h : EachGood p pre) {x : Tri n L Ok} (hx : p x.1.1 x.1.2.1) : EachGood p (pre ++ [x]) := by
  intro t ht
  rcases List.mem_append.1 ht with ht | ht
  · exact h t ht
  · obtain rfl : t = x := by simpa using ht
    exact hx
theorem EachGood.all {n : Nat} {L : Nat → Nat} {Ok : Nat → Nat → Int → Prop} {p : Nat → Nat → Prop} {xs : List (Tri n L Ok)} (h : EachGood p xs) (hS : xs.map pl = allPl L n) {i j : Nat} (hi : i < n) (hj : j < L i) : p i j := by
  have hm : (i, j) ∈ xs.map pl := by rw [hS]; exact mem_allPl.2 ⟨hi, hj⟩
  obtain ⟨t, ht, hp⟩ := List.mem_map.1 hm
  have := h t ht
  rw [hp] at this
  exact this
/-- at some place that has come p does not hold -/
def EachBad {n : Nat} {L : Nat → Nat} {Ok : Nat → Nat → Int → Prop} (p : Nat → Nat → Prop) (pre : List (Tri n L Ok)) : Prop := ∃ t ∈ pre, ¬ p (pl t).1 (pl t).2
theorem EachBad.snoc {n : Nat} {L : Nat → Nat} {Ok : Nat → Nat → Int → Prop} {p : Nat → Nat → Prop} {pre : List (Tri n L Ok)} {x : Tri n L Ok} (hx : ¬ p x.1.1 x.1.2.1) : EachBad p (pre ++ [x]) := ⟨x, by simp, hx⟩
theorem EachBad.some {n : Nat} {L : Nat → Nat} {Ok : Nat → Nat → Int → Prop} {p : Nat → Nat → Prop} {pre : List (Tri n L Ok)} (h : EachBad p pre) : ∃ i j, i < n ∧ j < L i ∧ ¬ p i j := by
  obtain ⟨t, _, h⟩ := h
  exact ⟨_, _, t.2.1, t.2.2.1, h⟩

/-- what is known of the rows while they are gone through: their headers do not change, and their elements are integers that are right -/
def EachSh (Ok : Nat → Nat → Int → Prop) (a : Option Addr) (n : Nat) (ra : Nat → Option Addr) (rc L : Nat → Nat) (W : World) : Prop :=
  ∀ i, i < n → ∃ b off, a = some ⟨b, off, none⟩ ∧ W.cell? ⟨b, off + i, none⟩ = some (.slice (ra i) (L i) (rc i)) ∧
    ∀ j, j < L i → ∃ b2 off2 x, ra i = some ⟨b2, off2, none⟩ ∧ W.cell? ⟨b2, off2 + j, none⟩ = some (.int .i64 x) ∧ Ok i j x

theorem Each_in (F : Fence) (n_ : Nat) (hF : F.fn 12) (hro : F.round = none) (a : Option Addr) (n cap : Nat) (w : World) :
    CallsIn F n_ Try.prog 12 #[.slice a n cap] w fun e w' => e = .returned (.func (.func 18) #[] #[.pointer (some ⟨w.heap.size, 0, none⟩)]) ∧ w' = w.alloc (.cells #[.slice a n cap] 29) := by
  refine callsIn_of_wp Try.func12 rfl hF ?_ hro
  simp only [Try.ntmps12, List.size_toArray, List.length_cons, List.length_nil, Nat.reduceAdd, Nat.reduceSub, Array.replicate_succ, Array.replicate_zero, List.push_toArray, List.append_toArray, List.nil_append, List.cons_append]
  gi_wp2
  go_ret
  exact ⟨rfl, rfl⟩

set_option maxRecDepth 100000 in
set_option maxHeartbeats 2000000 in
theorem Each1_in (F : Fence) (n_ : Nat) (hF : F.fn 18) (hro : F.round = none) (hn_ : 1 ≤ n_) (l Bs : Nat) (a : Option Addr) (n cap : Nat) (ra : Nat → Option Addr) (rc L : Nat → Nat) (Ok : Nat → Nat → Int → Prop)
    (hn : n ≤ 1000000) (hL : ∀ i, i < n → L i ≤ 1000000) (Kp : World → World → Prop) (hKp : ∀ A B, Kp A B → EachSh Ok a n ra rc L A → EachSh Ok a n ra rc L B) (J Jx : List (Tri n L Ok) → World → Prop)
    (hY : ∀ pre x W, J pre W → pre.length < (allPl L n).length → YieldAt F (n_ - 1) Try.prog l (encT x) W fun e W' =>
      (e = .returned (.bool true) ∧ J (pre ++ [x]) W' ∧ Kp W W') ∨ (e = .returned (.bool false) ∧ Jx (pre ++ [x]) W'))
    (W : World) (hBs : W.cell? ⟨Bs, 0, none⟩ = some (.slice a n cap)) (hsh : EachSh Ok a n ra rc L W) (h0 : J [] W) :
    CallsIn F n_ Try.prog 18 #[.func (.yield l) #[] #[], .pointer (some ⟨Bs, 0, none⟩)] W fun e W' => (∃ v, e = .returned v) ∧
      ((∃ xs : List (Tri n L Ok), xs.map pl = allPl L n ∧ J xs W') ∨ (∃ pre : List (Tri n L Ok), pre.map pl <+: allPl L n ∧ Jx pre W')) := by
  have HL := Lib.hid hL
  have HK := Lib.hid hKp
  have HY := Lib.hid hY
  clear hL hKp hY
  refine callsIn_of_wp Try.func18 rfl hF ?_ hro
  simp only [Try.ntmps18, List.size_toArray, List.length_cons, List.length_nil, Nat.reduceAdd, Nat.reduceSub, Array.replicate_succ, Array.replicate_zero, List.push_toArray, List.append_toArray, List.nil_append, List.cons_append]
  gi_wp2
  gi_loopw [9] (fun i wr => ∃ (k : Nat) (pre : List (Tri n L Ok)), k ≤ n ∧ i = .int .i64 k ∧ pre.map pl = allPl L k ∧ J pre wr ∧ EachSh Ok a n ra rc L wr) (fun i _ => n - (intOf i).toNat)
  case atStart => exact ⟨0, [], Nat.zero_le _, rfl, rfl, h0, hsh⟩
  case round =>
    obtain ⟨k, pre, hk, rfl, hpre, hJ, hS⟩ := hrel
    have HP := Lib.hid hpre
    have HS := Lib.hid hS
    have HJ := Lib.hid hJ
    clear hpre hS hJ hsh h0
    by_cases hlt : k < n
    · obtain ⟨b, off, rfl, hc, hrow⟩ := HS.out k hlt
      have hLk := HL.out k hlt
      obtain ⟨rk, hrk⟩ : ∃ rk, rk = ra k := ⟨_, rfl⟩
      rw [← hrk] at hc
      have HRK := Lib.hid hrk
      have hcase : L k = 0 ∨ ∃ b2 off2, rk = some ⟨b2, off2, none⟩ := by
        by_cases h : L k = 0
        · exact Or.inl h
        · obtain ⟨b2, off2, x, e, _⟩ := hrow 0 (by omega)
          exact Or.inr ⟨b2, off2, by rw [hrk, e]⟩
      clear hrow hrk
      rcases hcase with hz | ⟨b3, off3, rfl⟩
      · obtain ⟨wo, rfl⟩ : ∃ wo : World, wo = wr := ⟨_, rfl⟩
        obtain ⟨l0, hl0⟩ : ∃ l0, l0 = L k := ⟨_, rfl⟩
        rw [← hl0] at hc hz
        obtain rfl : l0 = 0 := hz
        have HZ := Lib.hid hl0
        clear hl0 hLk
        gi_wp2
        gi_loopw [16] (fun j wr => j = .int .i64 0 ∧ wr = wo) (fun _ _ => 0)
        case atStart => exact ⟨rfl, rfl⟩
        case round =>
          obtain ⟨rfl, rfl⟩ := hrel
          gi_wp2
          go_roundw
          case rel => exact ⟨k + 1, pre, by omega, by simp, by rw [HP.out, allPl_succ, ← HZ.out, rowPl_zero, List.append_nil], HJ.out, HS.out⟩
          case measure => simp [intOf]; omega
      · obtain ⟨wo, rfl⟩ : ∃ wo : World, wo = wr := ⟨_, rfl⟩
        gi_wp2
        gi_loopw [16] (fun j wr => ∃ (t : Nat) (pre : List (Tri n L Ok)), t ≤ L k ∧ j = .int .i64 t ∧ pre.map pl = allPl L k ++ rowPl k t ∧ J pre wr ∧ EachSh Ok (some ⟨b, off, none⟩) n ra rc L wr) (fun j _ => L k - (intOf j).toNat)
        case atStart => exact ⟨0, pre, Nat.zero_le _, rfl, by rw [HP.out]; simp [rowPl], HJ.out, HS.out⟩
        case round =>
          obtain ⟨t, pre2, ht, rfl, hpre2, hJ2, hS2⟩ := hrel
          by_cases hlt2 : t < L k
          · obtain ⟨b', off', e, hc2, hrow⟩ := hS2 k hlt
            obtain ⟨b2, off2, x, hra, hcx, hok⟩ := hrow t hlt2
            obtain ⟨rfl, rfl⟩ : b3 = b2 ∧ off3 = off2 := by have := HRK.out.trans hra; simpa using this
            have hlen : pre2.length < (allPl L n).length := by
              have h1 := congrArg List.length hpre2
              rw [List.length_map] at h1
              rw [h1]
              exact allPl_lt hlt hlt2
            obtain ⟨fn, tmps, assign, body, hy, hR⟩ := HY.out pre2 ⟨(k, t, x), hlt, hlt2, hok⟩ wr hJ2 hlen
            have HP2 := Lib.hid hpre2
            have HS2 := Lib.hid hS2
            dsimp only [encT] at hy
            clear hpre2 hS2 hrow hc2 e
            gi_wp2
            refine hR.mono ?_
            rintro e W3 (⟨rfl, hJ3, hk3⟩ | ⟨rfl, hJx3⟩)
            · have HS3 := Lib.hid (HK.out _ _ hk3 HS2.out)
              have HJ3 := Lib.hid hJ3
              clear hJ3 hk3
              gi_wp2
              go_roundw
              case rel => 
               exact ⟨t + 1, pre2 ++ [⟨(k, t, x), hlt, hlt2, hok⟩], by omega, by simp, by rw [List.map_append, HP2.out, rowPl_succ, List.append_assoc]; rfl, HJ3.out, HS3.out⟩
              case measure => simp [intOf]; omega
            · gi_wp2
              refine bodyPost_ret (results_none rfl _ _ _) rfl ?_
              refine ⟨⟨_, rfl⟩, .inr ⟨_, ?_, hJx3⟩⟩
              rw [List.map_append, HP2.out]
              have := allPl_prefix (L := L) hlt (show t + 1 ≤ L k by omega)
              rw [rowPl_succ, ← List.append_assoc] at this
              exact this
          · obtain rfl : t = L k := by omega
            have HP2 := Lib.hid hpre2
            have HS2 := Lib.hid hS2
            have HJ2 := Lib.hid hJ2
            clear hpre2 hS2 hJ2
            gi_wp2
            go_roundw
            case rel => exact ⟨k + 1, pre2, by omega, by simp, by rw [HP2.out, allPl_succ], HJ2.out, HS2.out⟩
            case measure => simp [intOf]; omega
    · obtain rfl : k = n := by omega
      gi_wp2
      go_end0
      exact ⟨⟨_, rfl⟩, .inl ⟨_, HP.out, HJ.out⟩⟩

/-- rows that are read only -/
theorem rows_each {w : World} {a : Option Addr} {n : Nat} {rows : List (List Int)} (h : RowsAt w a n rows) : ∃ (ra : Nat → Option Addr) (rc : Nat → Nat),
    (∀ W, Below w.heap.size w W → EachSh (fun i j x => x = (rows.getD i []).getD j 0) a n ra rc (fun i => (rows.getD i []).length) W) ∧
    (∀ A B, Below w.heap.size A B → EachSh (fun i j x => x = (rows.getD i []).getD j 0) a n ra rc (fun i => (rows.getD i []).length) A → EachSh (fun i j x => x = (rows.getD i []).getD j 0) a n ra rc (fun i => (rows.getD i []).length) B) := by
  have h2 : ∀ i, ∃ p : Option Addr × Nat, i < n → ∃ b off, a = some ⟨b, off, none⟩ ∧ b < w.heap.size ∧ w.cell? ⟨b, off + i, none⟩ = some (.slice p.1 (rows.getD i []).length p.2) ∧ IntsAt w p.1 (rows.getD i []).length (rows.getD i []) := by
    intro i
    by_cases hi : i < n
    · obtain ⟨b, off, ra, rc, ha, hc, h1, h2, h2', h3⟩ := h.2 i hi
      exact ⟨(ra, rc), fun _ => ⟨b, off, ha, World.block_lt_of_cell? _ _ hc, hc, h3⟩⟩
    · exact ⟨(none, 0), fun h => absurd h hi⟩
  obtain ⟨f, hf⟩ := Classical.axiomOfChoice h2
  refine ⟨fun i => (f i).1, fun i => (f i).2, ?_, ?_⟩
  · intro W hb i hi
    obtain ⟨b, off, ha, hlt, hc, hints⟩ := hf i hi
    refine ⟨b, off, ha, by rw [hb.cell (p := ⟨b, off + i, none⟩) hlt]; exact hc, fun j hj => ?_⟩
    obtain ⟨b2, off2, e, hc2⟩ := hints.2 j hj
    exact ⟨b2, off2, _, e, by rw [hb.cell (p := ⟨b2, off2 + j, none⟩) (World.block_lt_of_cell? _ _ hc2)]; exact hc2, rfl⟩
  · intro A B hb hA i hi
    obtain ⟨b, off, ha, hlt, hc, hints⟩ := hf i hi
    obtain ⟨b', off', ha', hc', hrow⟩ := hA i hi
    rw [ha] at ha'
    obtain ⟨rfl, rfl⟩ : b = b' ∧ off = off' := by simpa using ha'
    refine ⟨b, off, ha, by rw [hb.cell (p := ⟨b, off + i, none⟩) hlt]; exact hc', fun j hj => ?_⟩
    obtain ⟨b2, off2, e, hc2⟩ := hints.2 j hj
    obtain ⟨b3, off3, x, e', hc3, hx⟩ := hrow j hj
    dsimp only at e'
    rw [e] at e'
    obtain ⟨rfl, rfl⟩ : b2 = b3 ∧ off2 = off3 := by simpa using e'
    exact ⟨b2, off2, x, e, by rw [hb.cell (p := ⟨b2, off2 + j, none⟩) (World.block_lt_of_cell? _ _ hc2)]; exact hc3, hx⟩

/-- num.Each's value goes through all places, or stops at one of them -/
theorem Each_stops (F : Fence) (n_ : Nat) (hF : F.fn 18) (hro : F.round = none) (hn_ : 1 ≤ n_) (Bs : Nat) (a : Option Addr) (n cap : Nat) (ra : Nat → Option Addr) (rc L : Nat → Nat) (Ok : Nat → Nat → Int → Prop)
    (hn : n ≤ 1000000) (hL : ∀ i, i < n → L i ≤ 1000000) (Kp : World → World → Prop) (hKp : ∀ A B, Kp A B → EachSh Ok a n ra rc L A → EachSh Ok a n ra rc L B)
    (w : World) (hB : Bs < w.heap.size) (hBs : w.cell? ⟨Bs, 0, none⟩ = some (.slice a n cap)) (hsh : ∀ W, Below w.heap.size w W → EachSh Ok a n ra rc L W) :
    SeqStopsK F n_ Try.prog 18 #[.pointer (some ⟨Bs, 0, none⟩)] (encT (n := n) (L := L) (Ok := Ok)) Kp (fun xs => xs.map pl = allPl L n) (fun pre => pre.map pl <+: allPl L n) (allPl L n).length w := fun l J Jx W hW _ _ hY h0 =>
  Each1_in F n_ hF hro hn_ l Bs a n cap ra rc L Ok hn hL Kp hKp J Jx hY W ((hW.cell (p := ⟨Bs, 0, none⟩) hB).trans hBs) (hsh W hW) h0
end Go.Proofs.Ythbfeecbaanegaa
